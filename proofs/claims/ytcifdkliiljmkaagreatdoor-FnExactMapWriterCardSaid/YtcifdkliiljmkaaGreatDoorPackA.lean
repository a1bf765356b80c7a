/-
  What this claim leans on: values in cells, contracts of functions (23 texts of this claim's own, laid together).
-/
import Derived.Shelf.Strings.SlTrimAscii
import Derived.Test.YtcifdkliiljmkaaGreatDoorProg
import Derived.WalkKit
import Derived.ProofKit
import Derived.Deep.Slices
import Derived.Deep.QuietTactic
import Derived.BigQuiet
import Derived.Deep.RegionWith
import Derived.Lib.Hide
import Derived.WalkSmall
import Derived.StillTailTactics
import Derived.Deep.RegionHeld3
import Derived.WalkSpells
import Derived.WalkLawsBesides
import Derived.Test.YtcifdkliiljmkaaGreatDoorRows
import Derived.PlainAid
import Derived.Laws.AppendOwn
import Derived.Deep.AppendSrc
/-
  Contracts of the library, laid at this program (by a program of this claim's own, layn.py, after the kit's own laying).
-/
namespace Go.Proofs
open Go.Shelf
def Tryz.lays160_ren : Go.Shelf.Ren := ⟨fun | 119 => 138 | 120 => 130 | 137 => 137 | 151 => 119 | 152 => 129 | 160 => 80 | 197 => 118 | 217 => 151 | 224 => 139 | 225 => 140 | 227 => 103 | 228 => 117 | 231 => 101 | 232 => 102 | 233 => 104 | 234 => 105 | 235 => 106 | 236 => 107 | 260 => 128 | 266 => 160 | 271 => 120 | n => n, fun | 0 => 0 | 3 => 3 | 4 => 4 | 5 => 5 | 9 => 9 | 21 => 21 | 46 => 191 | 105 => 157 | 116 => 144 | 117 => 145 | 119 => 168 | 124 => 148 | 138 => 193 | 139 => 194 | n => n, fun | 3 => 0 | 4 => 1 | n => n⟩
theorem Tryz.lays160 : Go.Proofs.Lays.n160 Tryz.prog Tryz.lays160_ren := {
  mixed := by kernel_rfl
  f119 := Tryz.func138.trans (congrArg some (by kernel_rfl))
  f120 := Tryz.func130.trans (congrArg some (by kernel_rfl))
  f137 := Tryz.func137.trans (congrArg some (by kernel_rfl))
  f151 := Tryz.func119.trans (congrArg some (by kernel_rfl))
  f152 := Tryz.func129.trans (congrArg some (by kernel_rfl))
  f160 := Tryz.func80.trans (congrArg some (by kernel_rfl))
  f197 := Tryz.func118.trans (congrArg some (by kernel_rfl))
  f217 := Tryz.func151.trans (congrArg some (by kernel_rfl))
  f224 := Tryz.func139.trans (congrArg some (by kernel_rfl))
  f225 := Tryz.func140.trans (congrArg some (by kernel_rfl))
  f227 := Tryz.func103.trans (congrArg some (by kernel_rfl))
  f228 := Tryz.func117.trans (congrArg some (by kernel_rfl))
  f231 := Tryz.func101.trans (congrArg some (by kernel_rfl))
  f232 := Tryz.func102.trans (congrArg some (by kernel_rfl))
  f233 := Tryz.func104.trans (congrArg some (by kernel_rfl))
  f234 := Tryz.func105.trans (congrArg some (by kernel_rfl))
  f235 := Tryz.func106.trans (congrArg some (by kernel_rfl))
  f236 := Tryz.func107.trans (congrArg some (by kernel_rfl))
  f260 := Tryz.func128.trans (congrArg some (by kernel_rfl))
  f266 := Tryz.func160.trans (congrArg some (by kernel_rfl))
  f271 := Tryz.func120.trans (congrArg some (by kernel_rfl))
  t0 := Tryz.underlying0
  a0 := Tryz.isAgg0
  z0 := Tryz.sizeOf0
  v0 := Tryz.zeroValue0
  t3 := Tryz.underlying3
  a3 := Tryz.isAgg3
  z3 := Tryz.sizeOf3
  v3 := Tryz.zeroValue3
  t4 := Tryz.underlying4
  a4 := Tryz.isAgg4
  z4 := Tryz.sizeOf4
  v4 := Tryz.zeroValue4
  t5 := Tryz.underlying5
  a5 := Tryz.isAgg5
  z5 := Tryz.sizeOf5
  v5 := Tryz.zeroValue5
  t9 := Tryz.underlying9
  a9 := Tryz.isAgg9
  z9 := Tryz.sizeOf9
  v9 := Tryz.zeroValue9
  t21 := Tryz.underlying21
  a21 := Tryz.isAgg21
  z21 := Tryz.sizeOf21
  v21 := Tryz.zeroValue21
  t46 := Tryz.underlying191
  a46 := Tryz.isAgg191
  z46 := Tryz.sizeOf191
  v46 := Tryz.zeroValue191
  t105 := Tryz.underlying157
  a105 := Tryz.isAgg157
  z105 := Tryz.sizeOf157
  v105 := Tryz.zeroValue157
  t116 := Tryz.underlying144
  a116 := Tryz.isAgg144
  z116 := Tryz.sizeOf144
  t117 := Tryz.underlying145
  a117 := Tryz.isAgg145
  z117 := Tryz.sizeOf145
  v117 := Tryz.zeroValue145
  t119 := Tryz.underlying168
  a119 := Tryz.isAgg168
  z119 := Tryz.sizeOf168
  t124 := Tryz.underlying148
  a124 := Tryz.isAgg148
  z124 := Tryz.sizeOf148
  v124 := Tryz.zeroValue148
  t138 := Tryz.underlying193
  a138 := Tryz.isAgg193
  z138 := Tryz.sizeOf193
  v138 := Tryz.zeroValue193
  t139 := Tryz.underlying194
  a139 := Tryz.isAgg194
  z139 := Tryz.sizeOf194
  v139 := Tryz.zeroValue194
  g3 := by kernel_rfl
  g4 := by kernel_rfl }
end Go.Proofs

/-
  Plain definitions and lemmas: how lists, structs, numbers and strings lie in Go memory ('rd': they can be read; 'ow': they lie in blocks of their own). No program is named here.
-/
namespace Go.Proofs.YtcifdkliiljmkaaGreatDoor
open Go.RowKit

/-- How values of a Lean type lie in cells. 'rd w B cs a': the cells 'cs' stand for 'a', all memory that they lead to lies in blocks below B. 'ow w cs a fp': they stand for 'a' and lead to the blocks 'fp', each of which is a row of its own. -/
structure Enc (α : Type) where
  size : Nat
  rd : World → Nat → List Value → α → Prop
  ow : World → List Value → α → List Nat → Prop
  rd_len : ∀ {w B cs a}, rd w B cs a → cs.length = size
  rd_below : ∀ {w w' : World} {B cs a}, (∀ p : Addr, p.block < B → w'.cell? p = w.cell? p) → rd w B cs a → rd w' B cs a
  rd_mono : ∀ {w B B' cs a}, B ≤ B' → rd w B cs a → rd w B' cs a
  ow_rd : ∀ {w cs a fp B}, (∀ b, b ∈ fp → b < B) → ow w cs a fp → rd w B cs a
  ow_lt : ∀ {w cs a fp}, ow w cs a fp → ∀ b, b ∈ fp → b < w.heap.size
  ow_frame : ∀ {w w' : World} {cs a fp}, (∀ b, b ∈ fp → w'.heap[b]? = w.heap[b]?) → ow w cs a fp → ow w' cs a fp

/-- A type of one cell whose values are written out. -/
def cellE {α : Type} (f : α → Value) : Enc α where
  size := 1
  rd _ _ cs a := cs = [f a]
  ow _ cs a fp := cs = [f a] ∧ fp = []
  rd_len h := by rw [h]; rfl
  rd_below _ h := h
  rd_mono _ h := h
  ow_rd _ h := h.1
  ow_lt h b hb := by rw [h.2] at hb; cases hb
  ow_frame _ h := h

def intE : Enc Int where
  size := 1
  rd _ _ cs a := cs = [.int .i64 a] ∧ -9223372036854775808 ≤ a ∧ a ≤ 9223372036854775807
  ow _ cs a fp := (cs = [.int .i64 a] ∧ -9223372036854775808 ≤ a ∧ a ≤ 9223372036854775807) ∧ fp = []
  rd_len h := by rw [h.1]; rfl
  rd_below _ h := h
  rd_mono _ h := h
  ow_rd _ h := h.1
  ow_lt h b hb := by rw [h.2] at hb; cases hb
  ow_frame _ h := h

def boolE : Enc Bool := cellE .bool

def strE : Enc ByteArray where
  size := 1
  rd _ _ cs a := cs = [.string a] ∧ a.size ≤ maxLen
  ow _ cs a fp := (cs = [.string a] ∧ a.size ≤ maxLen) ∧ fp = []
  rd_len h := by rw [h.1]; rfl
  rd_below _ h := h
  rd_mono _ h := h
  ow_rd _ h := h.1
  ow_lt h b hb := by rw [h.2] at hb; cases hb
  ow_frame _ h := h

/-- Two types side by side: a struct. -/
def pairE {α β : Type} (E : Enc α) (F : Enc β) : Enc (α × β) where
  size := E.size + F.size
  rd w B cs a := ∃ c1 c2, cs = c1 ++ c2 ∧ E.rd w B c1 a.1 ∧ F.rd w B c2 a.2
  ow w cs a fp := ∃ c1 c2 f1 f2, cs = c1 ++ c2 ∧ fp = f1 ++ f2 ∧ E.ow w c1 a.1 f1 ∧ F.ow w c2 a.2 f2
  rd_len := by rintro w B cs a ⟨c1, c2, rfl, h1, h2⟩; rw [List.length_append, E.rd_len h1, F.rd_len h2]
  rd_below := by rintro w w' B cs a h ⟨c1, c2, rfl, h1, h2⟩; exact ⟨c1, c2, rfl, E.rd_below h h1, F.rd_below h h2⟩
  rd_mono := by rintro w B B' cs a h ⟨c1, c2, rfl, h1, h2⟩; exact ⟨c1, c2, rfl, E.rd_mono h h1, F.rd_mono h h2⟩
  ow_rd := by
    rintro w cs a fp B hB ⟨c1, c2, f1, f2, rfl, rfl, h1, h2⟩
    exact ⟨c1, c2, rfl, E.ow_rd (fun b hb => hB b (by simp [hb])) h1, F.ow_rd (fun b hb => hB b (by simp [hb])) h2⟩
  ow_lt := by
    rintro w cs a fp ⟨c1, c2, f1, f2, rfl, rfl, h1, h2⟩ b hb
    rcases List.mem_append.1 hb with h | h
    · exact E.ow_lt h1 b h
    · exact F.ow_lt h2 b h
  ow_frame := by
    rintro w w' cs a fp h ⟨c1, c2, f1, f2, rfl, rfl, h1, h2⟩
    exact ⟨c1, c2, f1, f2, rfl, rfl, E.ow_frame (fun b hb => h b (by simp [hb])) h1, F.ow_frame (fun b hb => h b (by simp [hb])) h2⟩

/-- A type seen through a function: a Lean structure as a product. -/
def viaE {α β : Type} (E : Enc β) (f : α → β) : Enc α where
  size := E.size
  rd w B cs a := E.rd w B cs (f a)
  ow w cs a fp := E.ow w cs (f a) fp
  rd_len h := E.rd_len h
  rd_below h := E.rd_below h
  rd_mono h := E.rd_mono h
  ow_rd h := E.ow_rd h
  ow_lt h := E.ow_lt h
  ow_frame h := E.ow_frame h

/-- All elements of a list lie in their cells, each with blocks of its own. -/
inductive OwAll {α : Type} (E : Enc α) (w : World) : List α → List (List Value) → List (List Nat) → Prop
  | nil : OwAll E w [] [] []
  | cons {a l cs xss f fps} : E.ow w cs a f → OwAll E w l xss fps → OwAll E w (a :: l) (cs :: xss) (f :: fps)

theorem OwAll.frame {α : Type} {E : Enc α} {w w' : World} {l : List α} {xss : List (List Value)} {fps : List (List Nat)} (h : OwAll E w l xss fps) (hf : ∀ b, b ∈ fps.flatten → w'.heap[b]? = w.heap[b]?) : OwAll E w' l xss fps := by
  induction h with
  | nil => exact .nil
  | cons h1 h2 ih => exact .cons (E.ow_frame (fun b hb => hf b (by simp [hb])) h1) (ih (fun b hb => hf b (by rw [List.flatten_cons]; exact List.mem_append_right _ hb)))

theorem OwAll.lt {α : Type} {E : Enc α} {w : World} {l : List α} {xss : List (List Value)} {fps : List (List Nat)} (h : OwAll E w l xss fps) : ∀ b, b ∈ fps.flatten → b < w.heap.size := by
  induction h with
  | nil => intro b hb; simp at hb
  | cons h1 h2 ih =>
    intro b hb
    rw [List.flatten_cons] at hb
    rcases List.mem_append.1 hb with h | h
    · exact E.ow_lt h1 b h
    · exact ih b h

theorem OwAll.len {α : Type} {E : Enc α} {w : World} {l : List α} {xss : List (List Value)} {fps : List (List Nat)} (h : OwAll E w l xss fps) : xss.length = l.length ∧ fps.length = l.length := by
  induction h with
  | nil => exact ⟨rfl, rfl⟩
  | cons h1 h2 ih => simp [ih.1, ih.2]

theorem OwAll.append {α : Type} {E : Enc α} {w : World} {l : List α} {xss : List (List Value)} {fps : List (List Nat)} (h : OwAll E w l xss fps) {l' : List α} {xss' : List (List Value)} {fps' : List (List Nat)} (h' : OwAll E w l' xss' fps') :
    OwAll E w (l ++ l') (xss ++ xss') (fps ++ fps') := by
  induction h with
  | nil => exact h'
  | cons h1 h2 ih => exact .cons h1 ih

theorem OwAll.one {α : Type} {E : Enc α} {w : World} {a : α} {cs : List Value} {f : List Nat} (h : E.ow w cs a f) : OwAll E w [a] [cs] [f] := .cons h .nil

theorem OwAll.rdAt {α : Type} {E : Enc α} {w : World} {l : List α} {xss : List (List Value)} {fps : List (List Nat)} {B : Nat} (h : OwAll E w l xss fps) (hB : ∀ b, b ∈ fps.flatten → b < B) :
    ∀ i x, l[i]? = some x → ∃ xs f, xss[i]? = some xs ∧ fps[i]? = some f ∧ E.ow w xs x f ∧ E.rd w B xs x ∧ ∀ j v, xs[j]? = some v → xss.flatten[i * E.size + j]? = some v := by
  induction h with
  | nil => intro i x hx; simp at hx
  | @cons a l cs xss f fps h1 h2 ih =>
    intro i x hx
    have hl : cs.length = E.size := E.rd_len (E.ow_rd (B := B) (fun b hb => hB b (by simp [hb])) h1)
    cases i with
    | zero =>
      simp only [List.getElem?_cons_zero, Option.some.injEq] at hx
      subst hx
      refine ⟨cs, f, rfl, rfl, h1, E.ow_rd (fun b hb => hB b (by simp [hb])) h1, fun j v hv => ?_⟩
      rw [List.flatten_cons, Nat.zero_mul, Nat.zero_add, List.getElem?_append_left]
      · exact hv
      · exact (List.getElem?_eq_some_iff.1 hv).1
    | succ i =>
      simp only [List.getElem?_cons_succ] at hx
      obtain ⟨xs, g, e1, e2, e3, e4, e5⟩ := ih (fun b hb => hB b (by rw [List.flatten_cons]; exact List.mem_append_right _ hb)) i x hx
      refine ⟨xs, g, by simpa using e1, by simpa using e2, e3, e4, fun j v hv => ?_⟩
      rw [List.flatten_cons, List.getElem?_append_right (by rw [hl, Nat.succ_mul]; omega), hl, show (i + 1) * E.size + j - E.size = i * E.size + j from by rw [Nat.succ_mul]; omega]
      exact e5 j v hv

theorem OwAll.flat {α : Type} {E : Enc α} {w : World} {l : List α} {xss : List (List Value)} {fps : List (List Nat)} (h : OwAll E w l xss fps) : xss.flatten.length = l.length * E.size := by
  induction h with
  | nil => simp
  | cons h1 h2 ih =>
    rw [List.flatten_cons, List.length_append, ih, E.rd_len (E.ow_rd (B := w.heap.size) (E.ow_lt h1) h1), List.length_cons, Nat.succ_mul]
    omega

/-- A slice. 'ty': the number of the element's type. -/
def sliceE {α : Type} (E : Enc α) (ty : TypeId) : Enc (List α) where
  size := 1
  rd w B cs l := ∃ a cap, cs = [.slice a l.length cap] ∧ l.length ≤ cap ∧ cap ≤ maxLen ∧ (a = none → cap = 0) ∧
    ∀ i x, l[i]? = some x → ∃ b o xs, a = some ⟨b, o, none⟩ ∧ b < B ∧ E.rd w B xs x ∧ ∀ j v, xs[j]? = some v → w.cell? ⟨b, o + (i * E.size + j), none⟩ = some v
  ow w cs l fp := ∃ v xss fps, cs = [v] ∧ OwAll E w l xss fps ∧ w.ownsRow 0 ty E.size v l.length xss.flatten ∧ fp = v.ownBlock.toList ++ fps.flatten
  rd_len := by rintro w B cs l ⟨a, cap, rfl, _⟩; rfl
  rd_below := by
    rintro w w' B cs l h ⟨a, cap, rfl, h1, h2, h3, h4⟩
    refine ⟨a, cap, rfl, h1, h2, h3, fun i x hx => ?_⟩
    obtain ⟨b, o, xs, e1, e2, e3, e4⟩ := h4 i x hx
    exact ⟨b, o, xs, e1, e2, E.rd_below h e3, fun j v hv => by rw [h _ e2]; exact e4 j v hv⟩
  rd_mono := by
    rintro w B B' cs l h ⟨a, cap, rfl, h1, h2, h3, h4⟩
    refine ⟨a, cap, rfl, h1, h2, h3, fun i x hx => ?_⟩
    obtain ⟨b, o, xs, e1, e2, e3, e4⟩ := h4 i x hx
    exact ⟨b, o, xs, e1, by omega, E.rd_mono h e3, e4⟩
  ow_rd := by
    rintro w cs l fp B hB ⟨v, xss, fps, rfl, h1, h2, rfl⟩
    obtain ⟨hx, h2⟩ := h2
    rcases h2 with ⟨rfl, hn⟩ | ⟨g, cap, cur, rfl, hg, hh, hc, hm, hs, ht⟩
    · have hl : l = [] := List.eq_nil_of_length_eq_zero hn
      subst hl
      exact ⟨none, 0, rfl, Nat.le_refl _, Nat.zero_le _, fun _ => rfl, fun i x hx => by simp at hx⟩
    · refine ⟨some ⟨g, 0, none⟩, cap, rfl, hc, hm, (fun h => by cases h), fun i x hxi => ?_⟩
      obtain ⟨xs, f, e1, e2, e3, e4, e5⟩ := h1.rdAt (B := B) (fun b hb => hB b (List.mem_append_right _ hb)) i x hxi
      refine ⟨g, 0, xs, rfl, hB g (by simp [Value.ownBlock]), e4, fun j v hv => ?_⟩
      have hf := e5 j v hv
      rw [← ht, List.getElem?_take] at hf
      split at hf
      · rw [Nat.zero_add]
        unfold World.cell?
        rw [hh]
        simpa using hf
      · cases hf
  ow_lt := by
    rintro w cs l fp ⟨v, xss, fps, rfl, h1, h2, rfl⟩ b hb
    rcases List.mem_append.1 hb with h | h
    · exact (h2.lt b (by simpa using h)).2
    · exact h1.lt b h
  ow_frame := by
    rintro w w' cs l fp h ⟨v, xss, fps, rfl, h1, h2, rfl⟩
    refine ⟨v, xss, fps, rfl, h1.frame (fun b hb => h b (List.mem_append_right _ hb)), ⟨h2.1, ?_⟩, rfl⟩
    rcases h2.2 with hn | ⟨g, cap, cur, rfl, hg, hh, r⟩
    · exact .inl hn
    · exact .inr ⟨g, cap, cur, rfl, hg, by rw [h g (by simp [Value.ownBlock])]; exact hh, r⟩

/-- Below B all cells are as they were. -/
theorem Enc.rd_of {α : Type} (E : Enc α) {w w' : World} {B : Nat} {cs : List Value} {a : α} (hb : Below B w w') (h : E.rd w B cs a) : E.rd w' B cs a :=
  E.rd_below (fun _ hp => hb.cell hp) h

theorem Enc.ow_of {α : Type} (E : Enc α) {w w' : World} {cs : List Value} {a : α} {fp : List Nat} (hb : Below w.heap.size w w') (h : E.ow w cs a fp) : E.ow w' cs a fp :=
  E.ow_frame (fun b hm => hb.block b (E.ow_lt h b hm)) h

theorem Enc.rd_ow {α : Type} (E : Enc α) {w : World} {cs : List Value} {a : α} {fp : List Nat} (h : E.ow w cs a fp) : E.rd w w.heap.size cs a := E.ow_rd (E.ow_lt h) h

end Go.Proofs.YtcifdkliiljmkaaGreatDoor

/-
  Plain lemmas: what the form's own reading of an argument ('DataW.trod') gives: the argument can be read as a value of a Lean type ('Enc.rd'). No program is named here.
-/
namespace Go.Proofs.YtcifdkliiljmkaaGreatDoor
open Go.RowKit Go.ChangeShapes Go.WideShapes

/-- Whatever the form reads at type 't' is a value of E's type. -/
def Opens (P : Program) {α : Type} (E : Enc α) (t : TypeId) : Prop :=
  ∀ (H : Type) (enc : TypeId × Value → H) (w : World) (fuel : Nat) (cs : List Value) (x : DataW H × List MemPlace),
    DataW.trod enc P w 0 (fun _ => true) true fuel t cs = some x → ∃ a, E.rd w w.heap.size cs a

section
variable {P : Program} {t : TypeId}

theorem wf_bounds {a : Int} (h : (Lit.int .i64 a).wf = true) : -9223372036854775808 ≤ a ∧ a ≤ 9223372036854775807 := by
  simpa [Lit.wf, IntKind.min, IntKind.max, IntKind.bits, IntKind.signed] using h

theorem opens_int (h : P.underlying t = some (.int .i64)) : Opens P intE t := by
  intro H enc w fuel cs x hx
  obtain ⟨n, rfl, rfl, hw⟩ := DataW.trod_int h hx
  exact ⟨n, rfl, wf_bounds hw⟩

theorem opens_bool (h : P.underlying t = some .bool) : Opens P boolE t := by
  intro H enc w fuel cs x hx
  obtain ⟨n, rfl, rfl⟩ := DataW.trod_bool h hx
  exact ⟨n, rfl⟩

theorem opens_str (h : P.underlying t = some .string) : Opens P strE t := by
  intro H enc w fuel cs x hx
  obtain ⟨n, rfl, rfl, hs⟩ := DataW.trod_string h hx
  exact ⟨n, rfl, hs⟩

theorem opens_via {α β : Type} {E : Enc β} {f : α → β} (g : β → α) (hg : ∀ b, f (g b) = b) (h : Opens P E t) : Opens P (viaE E f) t := by
  intro H enc w fuel cs x hx
  obtain ⟨b, hb⟩ := h H enc w fuel cs x hx
  exact ⟨g b, by show E.rd _ _ _ (f (g b)); rw [hg]; exact hb⟩

theorem cells_get : ∀ {w : World} {a : Addr} {n : Nat} {cs : List Value}, w.cells? 0 a n = some cs → cs.length = n ∧ ∀ j v, cs[j]? = some v → w.cell? (a.add j) = some v := by
  intro w a n cs h
  unfold World.cells? at h
  rw [if_pos (Nat.zero_le _)] at h
  refine ⟨by simpa using mapM_some_length h, fun j v hj => ?_⟩
  have hj' : j < n := by have := (List.getElem?_eq_some_iff.1 hj).1; have h2 : cs.length = n := (by simpa using mapM_some_length h); omega
  have := mapM_some_get h j j (by simp [hj'])
  rw [this, hj]

theorem opens_slice {α : Type} {E : Enc α} {e : TypeId} (h : P.underlying t = some (.slice e)) (he : Opens P E e) (hs : P.cellsOf e = E.size) (hpos : 0 < E.size) : Opens P (sliceE E e) t := by
  intro H enc w fuel cs x hx
  rcases Deep.open_slice h hx with ⟨rfl, _⟩ | ⟨a, len, cap, m, n, D, Pl, rfl, _, hl, hm, hmm, _, hel⟩
  · exact ⟨[], none, 0, rfl, Nat.le_refl _, Nat.zero_le _, fun _ => rfl, fun i x hx => by simp at hx⟩
  · have hcap : m = cap := by simpa using hmm
    have hA : ∀ i, i < len → ∃ p : List Value × α, w.cells? 0 (a.add (i * E.size)) E.size = some p.1 ∧ E.rd w w.heap.size p.1 p.2 := by
      intro i hi
      obtain ⟨cs', h1, h2⟩ := hel i (by omega)
      obtain ⟨y, hy⟩ := he _ _ _ _ _ _ h2
      rw [hs] at h1
      exact ⟨(cs', y), h1, hy⟩
    by_cases h0 : len = 0
    · subst h0
      exact ⟨[], some a, cap, rfl, hl, hm, (fun h => by cases h), fun i x hx => by simp at hx⟩
    · obtain ⟨⟨c0, y0⟩, _⟩ := hA 0 (by omega)
      haveI : Inhabited (List Value × α) := ⟨(c0, y0)⟩
      obtain ⟨f, hf⟩ := Deep.choose_lt hA
      refine ⟨(List.range len).map fun i => (f i).2, some a, cap, by simp, by simpa using hl, hm, (fun h => by cases h), fun i x hx => ?_⟩
      have hi : i < len := by have := (List.getElem?_eq_some_iff.1 hx).1; simpa using this
      have hxe : x = (f i).2 := by
        rw [List.getElem?_map, List.getElem?_range hi] at hx
        simpa using hx.symm
      subst hxe
      obtain ⟨h1, h2⟩ := hf i hi
      obtain ⟨hlen, hget⟩ := cells_get h1
      have hsp : ∃ b o, a = ⟨b, o, none⟩ ∧ b < w.heap.size := by
        have hc0 : ∃ v, (f 0).1[0]? = some v := by
          obtain ⟨h1', _⟩ := hf 0 (by omega)
          have := (cells_get h1').1
          exact ⟨_, List.getElem?_eq_getElem (by omega)⟩
        obtain ⟨v, hv⟩ := hc0
        have := (cells_get (hf 0 (by omega)).1).2 0 v hv
        simp only [Nat.zero_mul, Addr.add, if_true] at this
        have h3 := World.cell?_spot this
        have h4 := World.block_lt_of_cell? w _ this
        obtain ⟨b, o, s⟩ := a
        exact ⟨b, o, by simpa using h3, h4⟩
      obtain ⟨b, o, rfl, hb⟩ := hsp
      refine ⟨b, o, (f i).1, rfl, hb, h2, fun j v hv => ?_⟩
      have := hget j v hv
      rw [Deep.add_add] at this
      simpa [Addr.add_lit] using this

/-- The fields of a struct, one behind the other. -/
inductive OpensF (P : Program) : {α : Type} → List Field → Nat → Enc α → Prop
  | last {α : Type} {E : Enc α} {f : Field} {off : Nat} : Opens P E f.type → f.offset = off → P.cellsOf f.type = E.size → OpensF P [f] off E
  | cons {α β : Type} {E : Enc α} {F : Enc β} {f : Field} {fs : List Field} {off : Nat} : Opens P E f.type → f.offset = off → P.cellsOf f.type = E.size → OpensF P fs (off + E.size) F →
      OpensF P (f :: fs) off (pairE E F)

theorem OpensF.rd {α : Type} {fs : List Field} {off : Nat} {E : Enc α} (h : OpensF P fs off E) {H : Type} {enc : TypeId × Value → H} {w : World} {n : Nat} {cs : List Value}
    (hf : ∀ f, f ∈ fs → ∃ x, DataW.trod enc P w 0 (fun _ => true) true n f.type ((cs.drop f.offset).take (P.cellsOf f.type)) = some x) : ∃ a, E.rd w w.heap.size ((cs.drop off).take E.size) a := by
  induction h with
  | @last α E f off h1 h2 h3 =>
    obtain ⟨x, hx⟩ := hf f (by simp)
    rw [h2, h3] at hx
    exact h1 _ _ _ _ _ _ hx
  | @cons α β E F f fs off h1 h2 h3 h4 ih =>
    obtain ⟨x, hx⟩ := hf f (by simp)
    rw [h2, h3] at hx
    obtain ⟨a, ha⟩ := h1 _ _ _ _ _ _ hx
    obtain ⟨b, hb⟩ := ih (fun g hg => hf g (by simp [hg]))
    refine ⟨(a, b), _, _, ?_, ha, hb⟩
    show List.take (E.size + F.size) _ = _
    rw [List.take_add, List.drop_drop]

theorem opens_struct {α : Type} {E : Enc α} {fs : Array Field} (h : P.underlying t = some (.struct fs)) (hs : P.cellsOf t = E.size) (hf : OpensF P fs.toList 0 E) : Opens P E t := by
  intro H enc w fuel cs x hx
  obtain ⟨xs, n, _, rfl, hl, hlen, hg⟩ := DataW.trod_struct h hx
  obtain ⟨a, ha⟩ := hf.rd (enc := enc) (w := w) (n := n) (cs := cs) (fun f hm => by
    obtain ⟨i, hi, he⟩ := List.getElem_of_mem hm
    have h1 := hg i f (by simp [← he])
    rw [h1]
    have : i < xs.length := by rw [hlen]; simpa using hi
    exact ⟨_, List.getElem?_eq_getElem this⟩)
  refine ⟨a, ?_⟩
  rw [List.drop_zero, ← hs, ← hl, List.take_length] at ha
  exact ha
end

end Go.Proofs.YtcifdkliiljmkaaGreatDoor

/-
  Plain lemmas: what 'Enc.rd' says of a slice, spelled as a walk reads it (one cell an element, or several), and small words for contracts. No program is named here.
-/
namespace Go.Proofs.YtcifdkliiljmkaaGreatDoor
open Go.RowKit

section
variable {α : Type} {E : Enc α} {ty : TypeId} {w : World} {B : Nat} {v : Value} {l : List α}

/-- A slice whose elements are one cell each. -/
theorem rd_slice1 [Inhabited α] (hs : E.size = 1) (h : (sliceE E ty).rd w B [v] l) :
    ∃ a cap, v = .slice a l.length cap ∧ l.length ≤ cap ∧ cap ≤ 9223372036854775807 ∧ (a = none → cap = 0) ∧
      ∀ k, k < l.length → ∃ b o vk, a = some ⟨b, o, none⟩ ∧ b < B ∧ w.cell? ⟨b, o + k, none⟩ = some vk ∧ E.rd w B [vk] (l[k]?.getD default) := by
  obtain ⟨a, cap, hv, h1, h2, h3, h4⟩ := h
  obtain rfl : v = .slice a l.length cap := by simpa using hv
  refine ⟨a, cap, rfl, h1, by simpa [maxLen] using h2, h3, fun k hk => ?_⟩
  have hx : l[k]? = some (l[k]?.getD default) := by simp [List.getElem?_eq_getElem hk]
  obtain ⟨b, o, xs, e1, e2, e3, e4⟩ := h4 k _ hx
  have hl := E.rd_len e3
  rw [hs] at hl
  match xs, hl with
  | [vk], _ =>
    have := e4 0 vk rfl
    rw [hs] at this
    exact ⟨b, o, vk, e1, e2, by simpa using this, e3⟩

theorem rd_slice (h : (sliceE E ty).rd w B [v] l) : ∃ a n c, v = .slice a n c := by
  obtain ⟨a, cap, hv, _⟩ := h
  exact ⟨a, _, cap, by simpa using hv⟩

theorem rd_ints {l : List Int} (h : (sliceE intE ty).rd w B [v] l) :
    ∃ a cap, v = .slice a l.length cap ∧ l.length ≤ cap ∧ cap ≤ 9223372036854775807 ∧ (a = none → cap = 0) ∧
      ∀ k, k < l.length → ∃ b o, a = some ⟨b, o, none⟩ ∧ b < B ∧ w.cell? ⟨b, o + k, none⟩ = some (.int .i64 (l[k]?.getD 0)) ∧ -9223372036854775808 ≤ l[k]?.getD 0 ∧ l[k]?.getD 0 ≤ 9223372036854775807 := by
  obtain ⟨a, cap, h1, h2, h3, h4, h5⟩ := rd_slice1 rfl h
  refine ⟨a, cap, h1, h2, h3, h4, fun k hk => ?_⟩
  obtain ⟨b, o, vk, e1, e2, e3, e4⟩ := h5 k hk
  obtain ⟨e5, e6⟩ := e4
  simp only [List.cons.injEq, and_true] at e5
  subst e5
  exact ⟨b, o, e1, e2, e3, e6⟩

theorem rd_bools {l : List Bool} (h : (sliceE boolE ty).rd w B [v] l) :
    ∃ a cap, v = .slice a l.length cap ∧ l.length ≤ cap ∧ cap ≤ 9223372036854775807 ∧ (a = none → cap = 0) ∧
      ∀ k, k < l.length → ∃ b o, a = some ⟨b, o, none⟩ ∧ b < B ∧ w.cell? ⟨b, o + k, none⟩ = some (.bool (l[k]?.getD false)) := by
  obtain ⟨a, cap, h1, h2, h3, h4, h5⟩ := rd_slice1 rfl h
  refine ⟨a, cap, h1, h2, h3, h4, fun k hk => ?_⟩
  obtain ⟨b, o, vk, e1, e2, e3, e4⟩ := h5 k hk
  have e5 : [vk] = [Value.bool (l[k]?.getD default)] := e4
  simp only [List.cons.injEq, and_true] at e5
  subst e5
  exact ⟨b, o, e1, e2, e3⟩

theorem rd_strs {l : List ByteArray} (h : (sliceE strE ty).rd w B [v] l) :
    ∃ a cap, v = .slice a l.length cap ∧ l.length ≤ cap ∧ cap ≤ 9223372036854775807 ∧ (a = none → cap = 0) ∧
      ∀ k, k < l.length → ∃ b o, a = some ⟨b, o, none⟩ ∧ b < B ∧ w.cell? ⟨b, o + k, none⟩ = some (.string (l[k]?.getD ByteArray.empty)) ∧ (l[k]?.getD ByteArray.empty).size ≤ 9223372036854775807 := by
  obtain ⟨a, cap, h1, h2, h3, h4, h5⟩ := rd_slice1 (E := strE) rfl h
  refine ⟨a, cap, h1, h2, h3, h4, fun k hk => ?_⟩
  obtain ⟨b, o, vk, e1, e2, e3, e4⟩ := h5 k hk
  obtain ⟨e5, e6⟩ := e4
  simp only [List.cons.injEq, and_true] at e5
  subst e5
  exact ⟨b, o, e1, e2, e3, e6⟩
end

theorem len_le {α : Type} {E : Enc α} {ty : TypeId} {w : World} {B : Nat} {cs : List Value} {l : List α} (h : (sliceE E ty).rd w B cs l) : l.length ≤ 9223372036854775807 := by
  obtain ⟨a, cap, _, h1, h2, _⟩ := h
  simp [maxLen] at h2
  omega

/-- A call that only reads: it hands back v; memory that was there is as it was. -/
def Gives (v : Value) (w : World) (e : Ending) (w' : World) : Prop := e = .returned v ∧ Below w.heap.size w w'

/-- A call that hands back v and leaves the world as it was. -/
def Keeps (v : Value) (w : World) (e : Ending) (w' : World) : Prop := e = .returned v ∧ w = w'

/-- A call that hands back a value of one cell, of new memory ('f': the value among the results). -/
def Makes {α : Type} (E : Enc α) (f : Value → Value) (a : α) (w : World) (e : Ending) (w' : World) : Prop :=
  ∃ v fp, e = .returned (f v) ∧ E.ow w' [v] a fp ∧ fp.Nodup ∧ (∀ b, b ∈ fp → w.heap.size ≤ b) ∧ Below w.heap.size w w'

/-- The same of a struct. -/
def MakesS {α : Type} (E : Enc α) (f : Value → Value) (a : α) (w : World) (e : Ending) (w' : World) : Prop :=
  ∃ cs fp, e = .returned (f (.agg cs.toArray)) ∧ E.ow w' cs a fp ∧ fp.Nodup ∧ (∀ b, b ∈ fp → w.heap.size ≤ b) ∧ Below w.heap.size w w'

/-- Every block but those of a list is as it was. -/
structure But (fp : List Nat) (w w' : World) : Prop where
  os : w'.os = w.os
  tape : w'.tape = w.tape
  output : w'.output = w.output
  size : w.heap.size ≤ w'.heap.size
  block : ∀ k, k < w.heap.size → k ∉ fp → w'.heap[k]? = w.heap[k]?

theorem But.below {fp : List Nat} {w w' : World} {B : Nat} (h : But fp w w') (hB : ∀ b, b ∈ fp → B ≤ b) (hs : B ≤ w.heap.size) : Below B w w' :=
  ⟨h.os, h.tape, h.output, h.size, fun k hk => h.block k (by omega) (fun hm => by have := hB k hm; omega)⟩

theorem ownsRow_zero {w : World} {base : Nat} {e : TypeId} {size : Nat} {v : Value} {n : Nat} {xs : List Value} (h : w.ownsRow base e size v n xs) : w.ownsRow 0 e size v n xs := by
  refine ⟨h.1, ?_⟩
  rcases h.2 with h | ⟨g, cap, cur, h1, _, h2⟩
  · exact .inl h
  · exact .inr ⟨g, cap, cur, h1, Nat.zero_le _, h2⟩

theorem flat_ones (vs : List Value) : (vs.map fun v => [v]).flatten = vs := by
  induction vs with
  | nil => rfl
  | cons v vs ih => simp [ih]

/-- A slice of elements of one cell that lead nowhere. -/
theorem ow_flat {α : Type} {E : Enc α} {ty : TypeId} {w : World} {v : Value} {l : List α} {base : Nat} (f : α → Value) (hE : E.size = 1) (hf : ∀ x, x ∈ l → E.ow w [f x] x []) (h : w.ownsRow base ty 1 v l.length (l.map f)) :
    (sliceE E ty).ow w [v] l v.ownBlock.toList := by
  refine ⟨v, (l.map f).map fun v => [v], l.map fun _ => [], rfl, ?_, ?_, ?_⟩
  · clear h
    induction l with
    | nil => exact .nil
    | cons a l ih => exact .cons (hf a (by simp)) (ih fun x hx => hf x (by simp [hx]))
  · rw [hE, flat_ones]; exact ownsRow_zero h
  · have : (l.map fun _ => ([] : List Nat)).flatten = [] := by simp
    rw [this, List.append_nil]

/-- A slice of elements of one cell. -/
theorem ow_ones {α : Type} {E : Enc α} {ty : TypeId} {w : World} {v : Value} {l : List α} {vs : List Value} {fps : List (List Nat)} {base : Nat} (hE : E.size = 1) (hf : OwAll E w l (vs.map fun v => [v]) fps)
    (h : w.ownsRow base ty 1 v l.length vs) : (sliceE E ty).ow w [v] l (v.ownBlock.toList ++ fps.flatten) :=
  ⟨v, vs.map fun v => [v], fps, rfl, hf, by rw [hE, flat_ones]; exact ownsRow_zero h, rfl⟩

theorem ownsRow_cells {w : World} {base : Nat} {e : TypeId} {size : Nat} {v : Value} {n : Nat} {xs : List Value} (h : w.ownsRow base e size v n xs) : v.cells.toList = [v] := by
  rcases h.2 with ⟨rfl, _⟩ | ⟨g, cap, cur, rfl, _⟩ <;> rfl

theorem ow_shape {α : Type} {E : Enc α} {ty : TypeId} {w : World} {v : Value} {l : List α} {fp : List Nat} (h : (sliceE E ty).ow w [v] l fp) : ∃ a c, v = .slice a l.length c := by
  obtain ⟨v', xss, fps, hv, _, h2, _⟩ := h
  obtain rfl : v = v' := by simpa using hv
  rcases h2.2 with ⟨rfl, hn⟩ | ⟨g, cap, cur, rfl, _⟩
  · exact ⟨none, 0, by rw [hn]⟩
  · exact ⟨_, _, rfl⟩

theorem ow_slice {α : Type} {E : Enc α} {ty : TypeId} {w : World} {v : Value} {l : List α} {fp : List Nat} (h : (sliceE E ty).ow w [v] l fp) : ∃ a n c, v = .slice a n c := by
  obtain ⟨a, c, h⟩ := ow_shape h
  exact ⟨a, _, c, h⟩

theorem get_some {α : Type} (d : α) {l : List α} {k : Nat} (h : k < l.length) : l[k]? = some (l[k]?.getD d) := by simp [List.getElem?_eq_getElem h]

theorem nodup_option (o : Option Nat) : o.toList.Nodup := by cases o <;> simp

/-- The end of a walk that hands back a slice of its own, of elements of one cell that lead nowhere. -/
theorem makes_flat {α : Type} {E : Enc α} {ty : TypeId} {w wr : World} {v : Value} {l : List α} {g : Nat} (f : α → Value) (hE : E.size = 1) (hf : ∀ x, x ∈ l → E.ow wr [f x] x []) (h : wr.ownsRow g ty 1 v l.length (l.map f))
    (hB : Below g w wr) (hg : g = w.heap.size) : Makes (sliceE E ty) id l w (.returned v) wr := by
  subst hg
  refine ⟨v, v.ownBlock.toList, rfl, ?_, nodup_option _, ?_, hB⟩
  · exact ow_flat f hE hf h
  · intro b hb
    exact (h.lt b (by simpa using hb)).1

/-- make([]T, n), n one of the walk's numbers, T of one cell. -/
theorem make_run {P : Program} {t e : TypeId} {i : TypeInfo} {z : Value} (ht : P.underlying t = some (.slice e)) (hi : P.info? e = some i) (hz : i.zero = some z) (hs : i.size = 1) (n : Nat) (hb : i.bytes * n ≤ 281474976710656) (hn : n ≤ 9223372036854775807) (w : World) :
    (Instr.makeSlice t (.int .i64 (n : Int)) (.int .i64 (n : Int))).run P w = .ok (.slice (some ⟨w.heap.size, 0, none⟩) n n) (w.alloc (.cells (madeCells z.cells n) e)) := by
  have hb' : (i.bytes : Int) * (n : Int) ≤ 281474976710656 := by
    have h : ((i.bytes * n : Nat) : Int) ≤ 281474976710656 := by omega
    rwa [Int.natCast_mul] at h
  have := run_make w t e i z ht hi hz .i64 .i64 n n (by omega) (by omega) hb' (by omega)
  rw [this]
  simp [hs]

theorem made_owns {w : World} {ty : TypeId} (z : Value) (n : Nat) (hn : n ≤ maxLen) : (w.alloc (.cells (madeCells #[z] n) ty)).ownsRow w.heap.size ty 1 (.slice (some ⟨w.heap.size, 0, none⟩) n n) n (List.replicate n z) := by
  have := World.ownsRow_lit (e := ty) (size := 1) w (madeCells #[z] n) n (Nat.le_refl _) hn (by simp [size_madeCells])
  rwa [toList_madeCells_one] at this

theorem ownsRow_below {w w' : World} {base : Nat} {e : TypeId} {size : Nat} {v : Value} {n : Nat} {xs : List Value} (h : w.ownsRow base e size v n xs) (hb : Below w.heap.size w w') : w'.ownsRow base e size v n xs :=
  h.kept (row := none) ⟨hb.os, hb.tape, hb.output, hb.size, fun k hk _ => hb.block k hk⟩ (by cases hv : v.ownBlock <;> simp)

/-- A row of n cells of its own (block g), of which the first k have been filled, each with a value that leads to blocks of its own. -/
def Spine {α : Type} (E : Enc α) (ty : TypeId) (g n : Nat) (z : Value) (l : List α) (k : Nat) (w0 wr : World) : Prop :=
  ∃ vs fps, vs.length = k ∧ wr.ownsRow g ty 1 (.slice (some ⟨g, 0, none⟩) n n) n (vs ++ List.replicate (n - k) z) ∧ OwAll E wr (l.take k) (vs.map fun v => [v]) fps ∧ fps.flatten.Nodup ∧ (∀ b, b ∈ fps.flatten → g < b) ∧ Below g w0 wr

section
variable {α : Type} {E : Enc α} {ty : TypeId} {g n k : Nat} {z : Value} {l : List α} {w0 wr : World}

theorem Spine.start (h : wr.ownsRow g ty 1 (.slice (some ⟨g, 0, none⟩) n n) n (List.replicate n z)) (hB : Below g w0 wr) : Spine E ty g n z l 0 w0 wr :=
  ⟨[], [], rfl, by simpa using h, by simpa using OwAll.nil, by simp, by simp, hB⟩

theorem Spine.below (h : Spine E ty g n z l k w0 wr) : Below g w0 wr := by
  obtain ⟨vs, fps, _, _, _, _, _, h⟩ := h
  exact h

theorem Spine.lt (h : Spine E ty g n z l k w0 wr) : g < wr.heap.size := by
  obtain ⟨vs, fps, _, h, _⟩ := h
  exact (h.lt g rfl).2

theorem Spine.cell (h : Spine E ty g n z l k w0 wr) (hk : k < n) {w1 : World} (hb : Below wr.heap.size wr w1) : w1.cell? ⟨g, k, none⟩ = some z ∧ w1.frozen? ⟨g, k, none⟩ = false := by
  obtain ⟨vs, fps, hl, h, _⟩ := h
  have h1 := ownsRow_below h hb
  refine ⟨?_, h1.frozenAt k⟩
  rw [h1.cellAt k (by omega), List.getElem?_append_right (by omega), hl, Nat.sub_self, List.getElem?_replicate, if_pos (by omega)]

theorem Spine.step (h : Spine E ty g n z l k w0 wr) (hk : k < n) {w1 : World} (hb : Below wr.heap.size wr w1) {x : α} (hx : l[k]? = some x) {v : Value} {fp : List Nat} (ho : E.ow w1 [v] x fp) (hn : fp.Nodup)
    (hf : ∀ b, b ∈ fp → wr.heap.size ≤ b) : Spine E ty g n z l (k + 1) w0 (w1.setCell ⟨g, k, none⟩ v) := by
  have hgl := h.lt
  obtain ⟨vs, fps, hl, h1, h2, h3, h4, h5⟩ := h
  have hd : ∀ b, b ∈ fps.flatten → b < wr.heap.size := h2.lt
  refine ⟨vs ++ [v], fps ++ [fp], by simp [hl], ?_, ?_, ?_, ?_, ?_⟩
  · have := ((ownsRow_below h1 hb).stored k v).1
    have e : (vs ++ List.replicate (n - k) z).set k v = vs ++ [v] ++ List.replicate (n - (k + 1)) z := by
      rw [List.set_append_right _ _ (by omega), hl, Nat.sub_self, show n - k = (n - (k + 1)) + 1 from by omega, List.replicate_succ]
      simp
    rwa [e] at this
  · have hkl : k < l.length := (List.getElem?_eq_some_iff.1 hx).1
    have hx' : l[k] = x := (List.getElem?_eq_some_iff.1 hx).2
    rw [List.take_succ_eq_append_getElem hkl, hx', List.map_append]
    refine (h2.frame fun b hm => ?_).append (OwAll.one (E.ow_frame (fun b hm => ?_) ho))
    · have hne : b ≠ g := by have := h4 b hm; omega
      rw [Below.heap_setCell _ _ _ _ (by simpa using hne)]
      exact hb.block b (hd b hm)
    · have hne : b ≠ g := by have := hf b hm; omega
      rw [Below.heap_setCell _ _ _ _ (by simpa using hne)]
  · rw [List.flatten_append, List.nodup_append]
    refine ⟨h3, by simpa using hn, fun a ha b hb' e => ?_⟩
    have h6 := hd a ha
    have h7 := hf b (by simpa using hb')
    omega
  · intro b hm
    rw [List.flatten_append] at hm
    rcases List.mem_append.1 hm with hm | hm
    · exact h4 b hm
    · have := hf b (by simpa using hm)
      omega
  · exact (h5.trans (hb.mono (by omega))).setCell (Nat.le_refl _) _

theorem Spine.done (h : Spine E ty g n z l n w0 wr) (hE : E.size = 1) (hn : n = l.length) (hg : g = w0.heap.size) : Makes (sliceE E ty) id l w0 (.returned (.slice (some ⟨g, 0, none⟩) n n)) wr := by
  subst hn
  obtain ⟨vs, fps, hl, h1, h2, h3, h4, h5⟩ := h
  rw [List.take_length] at h2
  rw [Nat.sub_self, List.replicate_zero, List.append_nil] at h1
  refine ⟨_, g :: fps.flatten, rfl, ow_ones hE h2 h1, ?_, ?_, hg ▸ h5⟩
  · rw [List.nodup_cons]
    exact ⟨fun hm => by have := h4 g hm; omega, h3⟩
  · intro b hm
    rcases List.mem_cons.1 hm with rfl | hm
    · omega
    · have := h4 b hm
      omega
end

/-- Block b holds these cells, and may be written. -/
def Blk (w : World) (b : Nat) (cs : List Value) (ty : TypeId) : Prop := w.heap[b]? = some (.cells cs.toArray ty (0, 0))

section
variable {w w' : World} {b : Nat} {cs : List Value} {ty : TypeId}

theorem Blk.lt (h : Blk w b cs ty) : b < w.heap.size := (Array.getElem?_eq_some_iff.1 h).1
theorem Blk.new (w : World) (cs : Array Value) (ty : TypeId) : Blk (w.alloc (.cells cs ty)) w.heap.size cs.toList ty := by
  unfold Blk; rw [heap_alloc_new]
theorem Blk.alloc (h : Blk w b cs ty) (o : Obj) : Blk (w.alloc o) b cs ty := by
  unfold Blk; rw [Below.heap_alloc w o b h.lt]; exact h
theorem Blk.of {B : Nat} (h : Blk w b cs ty) (hb : Below B w w') (hB : b < B) : Blk w' b cs ty := by
  unfold Blk; rw [hb.block b hB]; exact h
theorem Blk.same (h : Blk w b cs ty) (hb : w'.heap[b]? = w.heap[b]?) : Blk w' b cs ty := by
  unfold Blk; rw [hb]; exact h
theorem Blk.set (h : Blk w b cs ty) (i : Nat) (v : Value) : Blk (w.setCell ⟨b, i, none⟩ v) b (cs.set i v) ty := by
  unfold Blk; rw [heap_setCell_same w b i cs.toArray ty v h]; simp
theorem Blk.other (h : Blk w b cs ty) {a : Addr} (ha : b ≠ a.block) (v : Value) : Blk (w.setCell a v) b cs ty := by
  unfold Blk; rw [Below.heap_setCell _ _ _ _ ha]; exact h
theorem Blk.cell (h : Blk w b cs ty) (i : Nat) {v : Value} (hv : cs[i]? = some v) : w.cell? ⟨b, i, none⟩ = some v := by
  have : w.heap[b]? = some (.cells cs.toArray ty (0, 0)) := h
  simp [World.cell?, this, hv]
theorem Blk.free (h : Blk w b cs ty) (i : Nat) : w.frozen? ⟨b, i, none⟩ = false := frozen_of_row w b i _ _ h
end

theorem blk1 {w w' : World} {c0 : Array Value} {t0 : TypeId} (h : w.alloc (.cells c0 t0) = w') : Blk w' w.heap.size c0.toList t0 ∧ Below w.heap.size w w' := by
  subst h
  exact ⟨Blk.new _ _ _, (Below.refl _ _).alloc (Nat.le_refl _) _⟩

theorem blk2 {w w' : World} {c0 c1 : Array Value} {t0 t1 : TypeId} (h : (w.alloc (.cells c0 t0)).alloc (.cells c1 t1) = w') :
    Blk w' w.heap.size c0.toList t0 ∧ Blk w' (w.heap.size + 1) c1.toList t1 ∧ Below w.heap.size w w' := by
  obtain ⟨h0, h1⟩ := blk1 (rfl : w.alloc (.cells c0 t0) = _)
  obtain ⟨h2, h3⟩ := blk1 h
  rw [World.size_alloc] at h2 h3
  exact ⟨h0.of h3 (by omega), h2, h1.trans (h3.mono (by omega))⟩

theorem blk3 {w w' : World} {c0 c1 c2 : Array Value} {t0 t1 t2 : TypeId} (h : ((w.alloc (.cells c0 t0)).alloc (.cells c1 t1)).alloc (.cells c2 t2) = w') :
    Blk w' w.heap.size c0.toList t0 ∧ Blk w' (w.heap.size + 1) c1.toList t1 ∧ Blk w' (w.heap.size + 1 + 1) c2.toList t2 ∧ Below w.heap.size w w' := by
  obtain ⟨h0, h1, h2⟩ := blk2 (rfl : (w.alloc (.cells c0 t0)).alloc (.cells c1 t1) = _)
  obtain ⟨h3, h4⟩ := blk1 h
  rw [World.size_alloc, World.size_alloc] at h3 h4
  exact ⟨h0.of h4 (by omega), h1.of h4 (by omega), h3, h2.trans (h4.mono (by omega))⟩

theorem blk4 {w w' : World} {c0 c1 c2 c3 : Array Value} {t0 t1 t2 t3 : TypeId} (h : (((w.alloc (.cells c0 t0)).alloc (.cells c1 t1)).alloc (.cells c2 t2)).alloc (.cells c3 t3) = w') :
    Blk w' w.heap.size c0.toList t0 ∧ Blk w' (w.heap.size + 1) c1.toList t1 ∧ Blk w' (w.heap.size + 1 + 1) c2.toList t2 ∧ Blk w' (w.heap.size + 1 + 1 + 1) c3.toList t3 ∧ Below w.heap.size w w' := by
  obtain ⟨h0, h1, h2, h5⟩ := blk3 (rfl : ((w.alloc (.cells c0 t0)).alloc (.cells c1 t1)).alloc (.cells c2 t2) = _)
  obtain ⟨h3, h4⟩ := blk1 h
  rw [World.size_alloc, World.size_alloc, World.size_alloc] at h3 h4
  exact ⟨h0.of h4 (by omega), h1.of h4 (by omega), h2.of h4 (by omega), h3, h5.trans (h4.mono (by omega))⟩

theorem But.refl (fp : List Nat) (w : World) : But fp w w := ⟨rfl, rfl, rfl, Nat.le_refl _, fun _ _ _ => rfl⟩
theorem But.setCell {fp : List Nat} {w w' : World} (h : But fp w w') {a : Addr} (ha : a.block ∈ fp) (v : Value) : But fp w (w'.setCell a v) :=
  ⟨h.os, h.tape, h.output, by simpa using h.size, fun k hk hn => by rw [Below.heap_setCell _ _ _ _ (fun e => hn (by rw [e]; exact ha))]; exact h.block k hk hn⟩
theorem But.trans {fp : List Nat} {w w' w'' : World} (h : But fp w w') (k : But fp w' w'') : But fp w w'' :=
  ⟨k.os.trans h.os, k.tape.trans h.tape, k.output.trans h.output, Nat.le_trans h.size k.size, fun i hi hn => (k.block i (Nat.lt_of_lt_of_le hi h.size) hn).trans (h.block i hi hn)⟩
theorem But.of_below {fp : List Nat} {w w' : World} (h : Below w.heap.size w w') : But fp w w' := ⟨h.os, h.tape, h.output, h.size, fun k hk _ => h.block k hk⟩
theorem Enc.ow_but {α : Type} (E : Enc α) {w w' : World} {cs : List Value} {a : α} {fp fq : List Nat} (h : E.ow w cs a fp) (hb : But fq w w') (hd : ∀ b, b ∈ fp → b ∉ fq) : E.ow w' cs a fp :=
  E.ow_frame (fun b hm => hb.block b (E.ow_lt h b hm) (hd b hm)) h
theorem Blk.but {w w' : World} {b : Nat} {cs : List Value} {ty : TypeId} (h : Blk w b cs ty) {fq : List Nat} (hb : But fq w w') (hd : b ∉ fq) : Blk w' b cs ty := h.same (hb.block b h.lt hd)

theorem Below.lt {B : Nat} {w w' : World} (h : Below B w w') {b : Nat} (hb : b < w.heap.size) : b < w'.heap.size := Nat.lt_of_lt_of_le hb h.size

end Go.Proofs.YtcifdkliiljmkaaGreatDoor

/-
  The program's structs as Lean structures, and how they lie in cells (written by a program of this claim's own, gen_structs.py).
-/
namespace Go.Proofs.YtcifdkliiljmkaaGreatDoor
open Go.RowKit

structure Move where
  to : Int
  dir : Int
deriving DecidableEq, Inhabited

structure PMove where
  to : Int
  dir : Int
  does : Int
deriving DecidableEq, Inhabited

def moveE : Enc Move := viaE (pairE intE intE) fun m => (m.to, m.dir)
def pmoveE : Enc PMove := viaE (pairE intE (pairE intE intE)) fun m => (m.to, m.dir, m.does)

abbrev intsE : Enc (List Int) := sliceE intE 2

abbrev intssE : Enc (List (List Int)) := sliceE intsE 89

abbrev intsssE : Enc (List (List (List Int))) := sliceE intssE 29

abbrev boolsE : Enc (List Bool) := sliceE boolE 4

abbrev boolssE : Enc (List (List Bool)) := sliceE boolsE 28

abbrev strsE : Enc (List ByteArray) := sliceE strE 9

abbrev strssE : Enc (List (List ByteArray)) := sliceE strsE 51

abbrev movesE : Enc (List Move) := sliceE moveE 93

abbrev movessE : Enc (List (List Move)) := sliceE movesE 91

theorem one_of {cs : List Value} (h : cs.length = 1) : ∃ v, cs = [v] := by
  match cs, h with
  | [v], _ => exact ⟨v, rfl⟩

structure Rot where
  letters : Int
  start : Int
  next : List (List Int)
  fin : List Int
deriving DecidableEq, Inhabited

def rotsE : Enc Rot := viaE (pairE intE (pairE intE (pairE intssE (intsE)))) fun r => (r.letters, r.start, r.next, r.fin)

theorem rd_Rot {w : World} {B : Nat} {cs : List Value} {r : Rot} (h : rotsE.rd w B cs r) :
    ∃ v2 v3, cs = [.int .i64 r.letters, .int .i64 r.start, v2, v3] ∧ (-9223372036854775808 ≤ r.letters ∧ r.letters ≤ 9223372036854775807) ∧ (-9223372036854775808 ≤ r.start ∧ r.start ≤ 9223372036854775807) ∧ intssE.rd w B [v2] r.next ∧ intsE.rd w B [v3] r.fin := by
  obtain ⟨c0, _, rfl, ⟨rfl, b0⟩, c1, _, rfl, ⟨rfl, b1⟩, c2, c3, rfl, h2, h3⟩ := h
  obtain ⟨v2, rfl⟩ := one_of (Enc.rd_len _ h2)
  obtain ⟨v3, rfl⟩ := one_of (Enc.rd_len _ h3)
  exact ⟨v2, v3, rfl, b0, b1, h2, h3⟩

theorem ow_Rot {w : World} {v2 v3 : Value} {f2 f3 : List Nat} {r : Rot} (b0 : (-9223372036854775808 ≤ r.letters ∧ r.letters ≤ 9223372036854775807)) (b1 : (-9223372036854775808 ≤ r.start ∧ r.start ≤ 9223372036854775807))
    (h2 : intssE.ow w [v2] r.next f2) (h3 : intsE.ow w [v3] r.fin f3) : rotsE.ow w [.int .i64 r.letters, .int .i64 r.start, v2, v3] r (f2 ++ f3) :=
  ⟨_, _, [], _, rfl, rfl, ⟨⟨rfl, b0⟩, rfl⟩, ⟨_, _, [], _, rfl, rfl, ⟨⟨rfl, b1⟩, rfl⟩, ⟨_, _, _, _, rfl, rfl, h2, h3⟩⟩⟩

theorem ow_Rot_inv {w : World} {cs : List Value} {fp : List Nat} {r : Rot} (h : rotsE.ow w cs r fp) :
    ∃ v2 f2 v3 f3, cs = [.int .i64 r.letters, .int .i64 r.start, v2, v3] ∧ (-9223372036854775808 ≤ r.letters ∧ r.letters ≤ 9223372036854775807) ∧ (-9223372036854775808 ≤ r.start ∧ r.start ≤ 9223372036854775807) ∧ intssE.ow w [v2] r.next f2 ∧ intsE.ow w [v3] r.fin f3 ∧ fp = f2 ++ f3 := by
  obtain ⟨c0, d0, f0, g0, rfl, rfl, ⟨⟨rfl, b0⟩, rfl⟩, c1, d1, f1, g1, rfl, rfl, ⟨⟨rfl, b1⟩, rfl⟩, c2, d2, f2, g2, rfl, rfl, h2, h3⟩ := h
  obtain ⟨v2, rfl⟩ := one_of (Enc.rd_len _ (Enc.rd_ow _ h2))
  obtain ⟨v3, rfl⟩ := one_of (Enc.rd_len _ (Enc.rd_ow _ h3))
  exact ⟨v2, f2, v3, _, rfl, b0, b1, h2, h3, by simp⟩

structure Reader where
  letters : Int
  start : Int
  accept : List Bool
  next : List (List Int)
deriving DecidableEq, Inhabited

def readE : Enc Reader := viaE (pairE intE (pairE intE (pairE boolsE (intssE)))) fun r => (r.letters, r.start, r.accept, r.next)

theorem rd_Reader {w : World} {B : Nat} {cs : List Value} {r : Reader} (h : readE.rd w B cs r) :
    ∃ v2 v3, cs = [.int .i64 r.letters, .int .i64 r.start, v2, v3] ∧ (-9223372036854775808 ≤ r.letters ∧ r.letters ≤ 9223372036854775807) ∧ (-9223372036854775808 ≤ r.start ∧ r.start ≤ 9223372036854775807) ∧ boolsE.rd w B [v2] r.accept ∧ intssE.rd w B [v3] r.next := by
  obtain ⟨c0, _, rfl, ⟨rfl, b0⟩, c1, _, rfl, ⟨rfl, b1⟩, c2, c3, rfl, h2, h3⟩ := h
  obtain ⟨v2, rfl⟩ := one_of (Enc.rd_len _ h2)
  obtain ⟨v3, rfl⟩ := one_of (Enc.rd_len _ h3)
  exact ⟨v2, v3, rfl, b0, b1, h2, h3⟩

theorem ow_Reader {w : World} {v2 v3 : Value} {f2 f3 : List Nat} {r : Reader} (b0 : (-9223372036854775808 ≤ r.letters ∧ r.letters ≤ 9223372036854775807)) (b1 : (-9223372036854775808 ≤ r.start ∧ r.start ≤ 9223372036854775807))
    (h2 : boolsE.ow w [v2] r.accept f2) (h3 : intssE.ow w [v3] r.next f3) : readE.ow w [.int .i64 r.letters, .int .i64 r.start, v2, v3] r (f2 ++ f3) :=
  ⟨_, _, [], _, rfl, rfl, ⟨⟨rfl, b0⟩, rfl⟩, ⟨_, _, [], _, rfl, rfl, ⟨⟨rfl, b1⟩, rfl⟩, ⟨_, _, _, _, rfl, rfl, h2, h3⟩⟩⟩

theorem ow_Reader_inv {w : World} {cs : List Value} {fp : List Nat} {r : Reader} (h : readE.ow w cs r fp) :
    ∃ v2 f2 v3 f3, cs = [.int .i64 r.letters, .int .i64 r.start, v2, v3] ∧ (-9223372036854775808 ≤ r.letters ∧ r.letters ≤ 9223372036854775807) ∧ (-9223372036854775808 ≤ r.start ∧ r.start ≤ 9223372036854775807) ∧ boolsE.ow w [v2] r.accept f2 ∧ intssE.ow w [v3] r.next f3 ∧ fp = f2 ++ f3 := by
  obtain ⟨c0, d0, f0, g0, rfl, rfl, ⟨⟨rfl, b0⟩, rfl⟩, c1, d1, f1, g1, rfl, rfl, ⟨⟨rfl, b1⟩, rfl⟩, c2, d2, f2, g2, rfl, rfl, h2, h3⟩ := h
  obtain ⟨v2, rfl⟩ := one_of (Enc.rd_len _ (Enc.rd_ow _ h2))
  obtain ⟨v3, rfl⟩ := one_of (Enc.rd_len _ (Enc.rd_ow _ h3))
  exact ⟨v2, f2, v3, _, rfl, b0, b1, h2, h3, by simp⟩

structure Many where
  letters : Int
  starts : List Int
  accept : List Bool
  next : List (List (List Int))
deriving DecidableEq, Inhabited

def manyE : Enc Many := viaE (pairE intE (pairE intsE (pairE boolsE (intsssE)))) fun r => (r.letters, r.starts, r.accept, r.next)

theorem rd_Many {w : World} {B : Nat} {cs : List Value} {r : Many} (h : manyE.rd w B cs r) :
    ∃ v1 v2 v3, cs = [.int .i64 r.letters, v1, v2, v3] ∧ (-9223372036854775808 ≤ r.letters ∧ r.letters ≤ 9223372036854775807) ∧ intsE.rd w B [v1] r.starts ∧ boolsE.rd w B [v2] r.accept ∧ intsssE.rd w B [v3] r.next := by
  obtain ⟨c0, _, rfl, ⟨rfl, b0⟩, c1, _, rfl, h1, c2, c3, rfl, h2, h3⟩ := h
  obtain ⟨v1, rfl⟩ := one_of (Enc.rd_len _ h1)
  obtain ⟨v2, rfl⟩ := one_of (Enc.rd_len _ h2)
  obtain ⟨v3, rfl⟩ := one_of (Enc.rd_len _ h3)
  exact ⟨v1, v2, v3, rfl, b0, h1, h2, h3⟩

theorem ow_Many {w : World} {v1 v2 v3 : Value} {f1 f2 f3 : List Nat} {r : Many} (b0 : (-9223372036854775808 ≤ r.letters ∧ r.letters ≤ 9223372036854775807))
    (h1 : intsE.ow w [v1] r.starts f1) (h2 : boolsE.ow w [v2] r.accept f2) (h3 : intsssE.ow w [v3] r.next f3) : manyE.ow w [.int .i64 r.letters, v1, v2, v3] r (f1 ++ (f2 ++ (f3))) :=
  ⟨_, _, [], _, rfl, rfl, ⟨⟨rfl, b0⟩, rfl⟩, ⟨_, _, _, _, rfl, rfl, h1, ⟨_, _, _, _, rfl, rfl, h2, h3⟩⟩⟩

theorem ow_Many_inv {w : World} {cs : List Value} {fp : List Nat} {r : Many} (h : manyE.ow w cs r fp) :
    ∃ v1 f1 v2 f2 v3 f3, cs = [.int .i64 r.letters, v1, v2, v3] ∧ (-9223372036854775808 ≤ r.letters ∧ r.letters ≤ 9223372036854775807) ∧ intsE.ow w [v1] r.starts f1 ∧ boolsE.ow w [v2] r.accept f2 ∧ intsssE.ow w [v3] r.next f3 ∧ fp = f1 ++ (f2 ++ (f3)) := by
  obtain ⟨c0, d0, f0, g0, rfl, rfl, ⟨⟨rfl, b0⟩, rfl⟩, c1, d1, f1, g1, rfl, rfl, h1, c2, d2, f2, g2, rfl, rfl, h2, h3⟩ := h
  obtain ⟨v1, rfl⟩ := one_of (Enc.rd_len _ (Enc.rd_ow _ h1))
  obtain ⟨v2, rfl⟩ := one_of (Enc.rd_len _ (Enc.rd_ow _ h2))
  obtain ⟨v3, rfl⟩ := one_of (Enc.rd_len _ (Enc.rd_ow _ h3))
  exact ⟨v1, f1, v2, f2, v3, _, rfl, b0, h1, h2, h3, by simp⟩

structure Turner where
  letters : Int
  start : Int
  moves : List (List Move)
deriving DecidableEq, Inhabited

def turnE : Enc Turner := viaE (pairE intE (pairE intE (movessE))) fun r => (r.letters, r.start, r.moves)

theorem rd_Turner {w : World} {B : Nat} {cs : List Value} {r : Turner} (h : turnE.rd w B cs r) :
    ∃ v2, cs = [.int .i64 r.letters, .int .i64 r.start, v2] ∧ (-9223372036854775808 ≤ r.letters ∧ r.letters ≤ 9223372036854775807) ∧ (-9223372036854775808 ≤ r.start ∧ r.start ≤ 9223372036854775807) ∧ movessE.rd w B [v2] r.moves := by
  obtain ⟨c0, _, rfl, ⟨rfl, b0⟩, c1, c2, rfl, ⟨rfl, b1⟩, h2⟩ := h
  obtain ⟨v2, rfl⟩ := one_of (Enc.rd_len _ h2)
  exact ⟨v2, rfl, b0, b1, h2⟩

theorem ow_Turner {w : World} {v2 : Value} {f2 : List Nat} {r : Turner} (b0 : (-9223372036854775808 ≤ r.letters ∧ r.letters ≤ 9223372036854775807)) (b1 : (-9223372036854775808 ≤ r.start ∧ r.start ≤ 9223372036854775807))
    (h2 : movessE.ow w [v2] r.moves f2) : turnE.ow w [.int .i64 r.letters, .int .i64 r.start, v2] r (f2) :=
  ⟨_, _, [], _, rfl, rfl, ⟨⟨rfl, b0⟩, rfl⟩, ⟨_, _, [], _, rfl, rfl, ⟨⟨rfl, b1⟩, rfl⟩, h2⟩⟩

theorem ow_Turner_inv {w : World} {cs : List Value} {fp : List Nat} {r : Turner} (h : turnE.ow w cs r fp) :
    ∃ v2 f2, cs = [.int .i64 r.letters, .int .i64 r.start, v2] ∧ (-9223372036854775808 ≤ r.letters ∧ r.letters ≤ 9223372036854775807) ∧ (-9223372036854775808 ≤ r.start ∧ r.start ≤ 9223372036854775807) ∧ movessE.ow w [v2] r.moves f2 ∧ fp = f2 := by
  obtain ⟨c0, d0, f0, g0, rfl, rfl, ⟨⟨rfl, b0⟩, rfl⟩, c1, d1, f1, g1, rfl, rfl, ⟨⟨rfl, b1⟩, rfl⟩, h2⟩ := h
  obtain ⟨v2, rfl⟩ := one_of (Enc.rd_len _ (Enc.rd_ow _ h2))
  exact ⟨v2, _, rfl, b0, b1, h2, by simp⟩

structure Pebbler where
  letters : Int
  start : Int
  moves : List (List PMove)
deriving DecidableEq, Inhabited

structure Writer where
  turner : Turner
  out : List (List ByteArray)
deriving DecidableEq, Inhabited

def writE : Enc Writer := viaE (pairE turnE strssE) fun w => (w.turner, w.out)

theorem rd_Writer {w : World} {B : Nat} {cs : List Value} {r : Writer} (h : writE.rd w B cs r) :
    ∃ v2 v3, cs = [.int .i64 r.turner.letters, .int .i64 r.turner.start, v2, v3] ∧ turnE.rd w B [.int .i64 r.turner.letters, .int .i64 r.turner.start, v2] r.turner ∧ strssE.rd w B [v3] r.out := by
  obtain ⟨c0, c1, rfl, h0, h1⟩ := h
  obtain ⟨v2, rfl, b0, b1, h2⟩ := rd_Turner h0
  obtain ⟨v3, rfl⟩ := one_of (Enc.rd_len _ h1)
  exact ⟨v2, v3, rfl, h0, h1⟩

theorem ow_Writer {w : World} {c0 : List Value} {v3 : Value} {f0 f1 : List Nat} {r : Writer} (h0 : turnE.ow w c0 r.turner f0) (h1 : strssE.ow w [v3] r.out f1) : writE.ow w (c0 ++ [v3]) r (f0 ++ f1) := ⟨_, _, _, _, rfl, rfl, h0, h1⟩

end Go.Proofs.YtcifdkliiljmkaaGreatDoor

/-
  Plain lemmas: a region that draws its order and whose callees leave all memory that was there as it was (they may make new blocks): one walk in the order of the text serves every order.
-/
namespace Go.Proofs.YtcifdkliiljmkaaGreatDoor
open Go.RowKit

/-- w, with what u has beyond it. -/
def over (w u : World) : World := { heap := w.heap ++ u.heap.extract w.heap.size u.heap.size, tape := w.tape, drawn := u.drawn, os := w.os, output := w.output }

theorem below_over (w u : World) : Below w.heap.size w (over w u) :=
  ⟨rfl, rfl, rfl, by simp [over], fun k hk => by simp [over, Array.getElem?_append, hk]⟩

theorem over_eq {w u : World} (h : Below w.heap.size w u) : over w u = u := by
  have hh : w.heap ++ u.heap.extract w.heap.size u.heap.size = u.heap := by
    apply Array.ext_getElem?
    intro i
    rw [Array.getElem?_append]
    split
    · rename_i hi; exact (h.block i hi).symm
    · rename_i hi
      have hs := h.size
      rw [Array.getElem?_extract]
      split
      · rw [show w.heap.size + (i - w.heap.size) = i from by omega]
      · rename_i h2
        rw [Array.getElem?_eq_none (by omega)]
  obtain ⟨heap, tape, drawn, os, output⟩ := u
  unfold over
  simp only [World.mk.injEq, true_and]
  exact ⟨hh, h.tape.symm, h.os.symm, h.output.symm⟩

theorem wp_region_over {P : Program} {id : Nat} {Q : Exit → Act → World → Prop} {a : Act} {w : World} {l : List Oper} (hm : P.follows .mixedOrders = true) (hB : Region.lexB .any l.toArray = true)
    (h : wpQuiet P l.toArray (fun w' => ∃ u, w' = over w u) (fun a' => ∀ w', Below w.heap.size w w' → Q .normal a' w') l a) : (Code.region id l.toArray true).wp P Q a w := by
  refine wp_region_quiet (C := fun w' => ∃ u, w' = over w u) hm hB ⟨_, (over_eq (⟨rfl, rfl, rfl, Nat.le_refl _, fun _ _ => rfl⟩ : Below w.heap.size w { w with drawn := w.drawn + 1 })).symm⟩ ?_
  have hq : (fun a' => ∀ w', Below w.heap.size w w' → Q .normal a' w') = (fun a' => ∀ w', (∃ u, w' = over w u) → Q .normal a' w') := by
    funext a'
    apply propext
    constructor
    · rintro h w' ⟨u, rfl⟩; exact h _ (below_over w u)
    · intro h w' hb; exact h w' ⟨w', (over_eq hb).symm⟩
  rw [hq] at h
  simpa using h

/-- A callee that leaves all that was there as it was, met inside such a region. -/
theorem calls_over {P : Program} {f : FuncId} {args : Array Value} {w n : World} {v : Value}
    (h : Calls P f args (over w n) fun e w' => e = .returned v ∧ Below (over w n).heap.size (over w n) w') : Calls P f args (over w n) fun e w'' => e = .returned v ∧ ∃ m, w'' = over w m :=
  h.mono fun _ w' ⟨he, hb⟩ => ⟨he, w', (over_eq ((below_over w n).trans (hb.mono (below_over w n).size))).symm⟩

theorem calls_same {P : Program} {f : FuncId} {args : Array Value} {w n : World} {v : Value}
    (h : Calls P f args (over w n) fun e w' => e = .returned v ∧ over w n = w') : Calls P f args (over w n) fun e w'' => e = .returned v ∧ ∃ m, w'' = over w m :=
  h.mono fun _ w' ⟨he, hb⟩ => ⟨he, n, hb.symm⟩

/-- Memory that was there reads as it did. -/
theorem cell_over (w : World) : ∀ (u : World) (b o : Nat), b < w.heap.size → (over w u).cell? ⟨b, o, none⟩ = w.cell? ⟨b, o, none⟩ :=
  fun u b o hb => (below_over w u).cell (p := ⟨b, o, none⟩) hb

end Go.Proofs.YtcifdkliiljmkaaGreatDoor

/-
  Plain lemmas for the laws' own helpers. No program is named here.
-/
namespace Go.Proofs.YtcifdkliiljmkaaGreatDoor
open Go.RowKit

theorem take_succ_map {α : Type} (d : α) (f : α → Value) (l : List α) (k n : Nat) (z : Value) (hn : l.length = n) (hk : k < n) :
    (((l.take k).map f) ++ List.replicate (n - k) z).set k (f (l[k]?.getD d)) = ((l.take (k + 1)).map f) ++ List.replicate (n - (k + 1)) z := by
  subst hn
  rw [List.take_succ_eq_append_getElem hk, List.map_append, List.append_assoc]
  have hlen : ((l.take k).map f).length = k := by simp; omega
  rw [List.set_append_right _ _ (by omega), hlen, Nat.sub_self, show l.length - k = (l.length - (k + 1)) + 1 from by omega, List.replicate_succ]
  simp [List.getElem?_eq_getElem hk]

theorem beq_len {a b : Nat} (h : a = b) : ((a : Int) != (b : Int)) = false := by simp [h]
theorem bne_len {a b : Nat} (h : ¬ a = b) : ((a : Int) != (b : Int)) = true := by simp; omega

theorem ext_getD {α : Type} (d : α) {la lb : List α} (hl : la.length = lb.length) (h : ∀ i, i < la.length → la[i]?.getD d = lb[i]?.getD d) : la = lb := by
  apply List.ext_getElem hl
  intro i h1 h2
  have := h i h1
  simpa [List.getElem?_eq_getElem h1, List.getElem?_eq_getElem h2] using this

/-- What is left of a number behind t; -1 if that is too little. -/
def lim (t : Nat) (left : Int) : Int := if left < t then -1 else left - t

theorem lim_of_lt {t : Nat} {left : Int} (h : left < t) : lim t left = -1 := if_pos h
theorem lim_of_ge {t : Nat} {left : Int} (h : ¬ left < t) : lim t left = left - t := if_neg h

/-- The elements' own sizes. -/
def sumLen {α : Type} (l : List (List α)) : Nat := (l.map List.length).sum

theorem sumLen_take {α : Type} (l : List (List α)) (k : Nat) (x : List α) (h : l[k]? = some x) : sumLen (l.take (k + 1)) = sumLen (l.take k) + x.length := by
  obtain ⟨hk, rfl⟩ := List.getElem?_eq_some_iff.1 h
  rw [List.take_succ_eq_append_getElem hk]
  simp only [sumLen, List.map_append, List.sum_append, List.map_cons, List.map_nil, List.sum_cons, List.sum_nil, Nat.add_zero]

theorem sumLen_le {α : Type} (l : List (List α)) (k : Nat) : sumLen (l.take k) ≤ sumLen l := by
  conv => rhs; rw [← List.take_append_drop k l]
  simp only [sumLen, List.map_append, List.sum_append]
  omega

theorem sumLen_mem {α : Type} (l : List (List α)) (x : List α) (h : x ∈ l) : x.length ≤ sumLen l := by
  induction l with
  | nil => cases h
  | cons a l ih =>
    simp only [sumLen, List.map_cons, List.sum_cons] at *
    rcases List.mem_cons.1 h with rfl | h
    · omega
    · have := ih h; omega

/-- A slice of elements of several cells that lead nowhere. -/
theorem ow_flats {α : Type} {E : Enc α} {ty : TypeId} {w : World} {v : Value} {l : List α} {base : Nat} (c : α → List Value) (hf : ∀ x, x ∈ l → E.ow w (c x) x []) (h : w.ownsRow base ty E.size v l.length (l.flatMap c)) :
    (sliceE E ty).ow w [v] l v.ownBlock.toList := by
  refine ⟨v, l.map c, l.map fun _ => [], rfl, ?_, ?_, ?_⟩
  · clear h
    induction l with
    | nil => exact .nil
    | cons a l ih => exact .cons (hf a (by simp)) (ih fun x hx => hf x (by simp [hx]))
  · rw [← List.flatMap_def]; exact ownsRow_zero h
  · have : (l.map fun _ => ([] : List Nat)).flatten = [] := by simp
    rw [this, List.append_nil]

theorem makes_flats {α : Type} {E : Enc α} {ty : TypeId} {w wr : World} {v : Value} {l : List α} {g : Nat} (c : α → List Value) (hf : ∀ x, x ∈ l → E.ow wr (c x) x []) (h : wr.ownsRow g ty E.size v l.length (l.flatMap c))
    (hB : Below g w wr) (hg : g = w.heap.size) : Makes (sliceE E ty) id l w (.returned v) wr := by
  subst hg
  refine ⟨v, v.ownBlock.toList, rfl, ow_flats c hf h, nodup_option _, ?_, hB⟩
  intro b hb
  exact (h.lt b (by simpa using hb)).1

theorem flatMap_len {α : Type} (c : α → List Value) (s : Nat) (hc : ∀ x, (c x).length = s) (l : List α) : (l.flatMap c).length = l.length * s := by
  induction l with
  | nil => simp
  | cons a l ih => rw [List.flatMap_cons, List.length_append, ih, hc, List.length_cons, Nat.succ_mul]; omega

theorem flatMap_take {α : Type} (d : α) (c : α → List Value) (l : List α) (k : Nat) (hk : k < l.length) : (l.take (k + 1)).flatMap c = (l.take k).flatMap c ++ c (l[k]?.getD d) := by
  rw [List.take_succ_eq_append_getElem hk, List.flatMap_append]
  simp [List.getElem?_eq_getElem hk]

theorem flatMap_get {α : Type} (d : α) (c : α → List Value) (s : Nat) (hc : ∀ x, (c x).length = s) (l : List α) (k i : Nat) (hk : k < l.length) (hi : i < s) : (l.flatMap c)[k * s + i]? = (c (l[k]?.getD d))[i]? := by
  induction l generalizing k with
  | nil => simp at hk
  | cons a l ih =>
    rw [List.flatMap_cons]
    cases k with
    | zero => simp only [Nat.zero_mul, Nat.zero_add]; rw [List.getElem?_append_left (by rw [hc]; exact hi)]; simp
    | succ k =>
      rw [List.getElem?_append_right (by rw [hc, Nat.succ_mul]; omega), hc, show (k + 1) * s + i - s = k * s + i from by rw [Nat.succ_mul]; omega, ih k (by simpa using hk)]
      simp

theorem flatMap_set {α : Type} (d : α) (c : α → List Value) (s : Nat) (hc : ∀ x, (c x).length = s) (l : List α) (k i : Nat) (u : Value) (x : α) (hk : k < l.length) (hi : i < s) (hx : (c (l[k]?.getD d)).set i u = c x) : (l.flatMap c).set (k * s + i) u = (l.set k x).flatMap c := by
  induction l generalizing k with
  | nil => simp at hk
  | cons a l ih =>
    rw [List.flatMap_cons]
    cases k with
    | zero =>
      simp only [Nat.zero_mul, Nat.zero_add, List.set_cons_zero, List.flatMap_cons]
      rw [List.set_append_left _ _ (by rw [hc]; exact hi)]
      simp at hx
      rw [hx]
    | succ k =>
      rw [List.set_append_right _ _ (by rw [hc, Nat.succ_mul]; omega), hc, show (k + 1) * s + i - s = k * s + i from by rw [Nat.succ_mul]; omega, List.set_cons_succ, List.flatMap_cons]
      rw [ih k (by simpa using hk) (by simpa using hx)]

theorem fill2 (pre : List Value) (m : Nat) (z u0 u1 : Value) : ((pre ++ List.replicate (m + 2) z).set pre.length u0).set (pre.length + 1) u1 = pre ++ [u0, u1] ++ List.replicate m z := by
  rw [List.set_append_right _ _ (Nat.le_refl _), Nat.sub_self, List.replicate_succ, List.replicate_succ, List.set_cons_zero, List.set_append_right _ _ (by omega), show pre.length + 1 - pre.length = 1 from by omega]
  simp

theorem fill3 (pre : List Value) (m : Nat) (z u0 u1 u2 : Value) : (((pre ++ List.replicate (m + 3) z).set pre.length u0).set (pre.length + 1) u1).set (pre.length + 1 + 1) u2 = pre ++ [u0, u1, u2] ++ List.replicate m z := by
  rw [List.set_append_right _ _ (Nat.le_refl _), Nat.sub_self, List.replicate_succ, List.replicate_succ, List.replicate_succ, List.set_cons_zero, List.set_append_right _ _ (by omega), show pre.length + 1 - pre.length = 1 from by omega,
    List.set_cons_succ, List.set_cons_zero, List.set_append_right _ _ (by omega), show pre.length + 1 + 1 - pre.length = 2 from by omega]
  simp

theorem tail_get (pre : List Value) (m i : Nat) (z : Value) (hi : i < m) : (pre ++ List.replicate m z)[pre.length + i]? = some z := by
  rw [List.getElem?_append_right (by omega), show pre.length + i - pre.length = i from by omega, List.getElem?_replicate, if_pos hi]

/-- make([]T, n), T of several cells that are all alike at zero. -/
theorem make_runs {P : Program} {t e : TypeId} {i : TypeInfo} {z : Value} {s : Nat} (ht : P.underlying t = some (.slice e)) (hi : P.info? e = some i) (hz : i.zero = some z) (hs : i.size = s) (n : Nat) (hb : i.bytes * n ≤ 281474976710656) (hn : n ≤ 9223372036854775807) (w : World) :
    (Instr.makeSlice t (.int .i64 (n : Int)) (.int .i64 (n : Int))).run P w = .ok (.slice (some ⟨w.heap.size, 0, none⟩) n n) (w.alloc (.cells (madeCells z.cells (n * s)) e)) := by
  have hb' : (i.bytes : Int) * (n : Int) ≤ 281474976710656 := by
    have h : ((i.bytes * n : Nat) : Int) ≤ 281474976710656 := by omega
    rwa [Int.natCast_mul] at h
  have := run_make w t e i z ht hi hz .i64 .i64 n n (by omega) (by omega) hb' (by omega)
  rw [this]
  simp [hs]

theorem made_alike (zs : Array Value) (z : Value) (hz : ∀ i, i < zs.size → zs[i]? = some z) (hpos : 0 < zs.size) (n : Nat) : (madeCells zs n).toList = List.replicate n z := by
  apply List.ext_getElem?
  intro j
  by_cases hj : j < n
  · have hm : j % zs.size < zs.size := Nat.mod_lt _ hpos
    have := hz _ hm
    rw [Array.getElem?_eq_getElem hm] at this
    simp only [Option.some.injEq] at this
    simp [madeCells, hj, hm, this]
  · simp [madeCells, hj]

theorem made_owns2 {w : World} {ty : TypeId} (zs : Array Value) (z : Value) (s : Nat) (hs : zs.size = s) (hz : ∀ i, i < zs.size → zs[i]? = some z) (hpos : 0 < zs.size) (n : Nat) (hn : n ≤ maxLen) :
    (w.alloc (.cells (madeCells zs (n * s)) ty)).ownsRow w.heap.size ty s (.slice (some ⟨w.heap.size, 0, none⟩) n n) n (List.replicate (n * s) z) := by
  have := World.ownsRow_lit (e := ty) (size := s) w (madeCells zs (n * s)) n (Nat.le_refl _) hn (by simp [size_madeCells])
  rwa [made_alike zs z hz hpos] at this

end Go.Proofs.YtcifdkliiljmkaaGreatDoor

/-
  Contracts of the laws' own helpers at one slice type (written by a program of this claim's own, gen_leaf.py).
-/
namespace Go.Proofs.YtcifdkliiljmkaaGreatDoor
open Go.RowKit

theorem info_Int64S : (Tryz.prog.info? 2).map (fun i => (i.zero, i.size, i.bytes)) = some (some (.int .i64 0), 1, 8) := by kernel_rfl

set_option maxHeartbeats 400000 in
theorem toInt64S_any (v : Value) (l : List Int) (B : Nat) (w : World) (h : intsE.rd w B [v] l) (hl : l.length ≤ 1048576) :
    Calls Tryz.prog 66 #[v] w (Makes intsE id l w) := by
  obtain ⟨a, cap, rfl, h1, h2, h3, h4⟩ := rd_ints h
  obtain ⟨i0, hi, hz0, hz1, hz2⟩ := info_parts info_Int64S
  obtain ⟨n, hn⟩ : ∃ n, n = l.length := ⟨_, rfl⟩
  rw [← hn] at hl h4 h1 ⊢
  have hmk := make_run (P := Tryz.prog) Tryz.underlying89 hi hz0 hz1 n (by rw [hz2]; omega) (by omega)
  have hmo := made_owns (w := w) (ty := 2) (.int .i64 0) n (by simp [maxLen]; omega)
  have Hn := Lib.hid hn; clear hn h
  have H4 := Lib.hid h4; clear h4
  have Hmo := Lib.hid hmo; clear hmo
  clear hi hz0 hz1 hz2
  go_enter Tryz.func66, Tryz.ntmps66
  go_wp2
  simp only [Value.cells] at *
  have hb0 : Below w.heap.size w (w.alloc (Obj.cells (madeCells #[.int .i64 0] n) 2)) := (Below.refl _ _).alloc (Nat.le_refl _) _
  have HB0 := Lib.hid hb0; clear hb0
  generalize w.alloc (Obj.cells (madeCells #[.int .i64 0] n) 2) = w1 at *
  obtain ⟨g, hg⟩ : ∃ g, g = w.heap.size := ⟨_, rfl⟩
  rw [← hg] at Hmo HB0 ⊢
  have Hg := Lib.hid hg; clear hg hmk
  go_loopw [4] (fun i wr => ∃ k : Nat, k ≤ n ∧ i = .int .i64 k ∧ Below g w wr ∧ wr.ownsRow g 2 1 (.slice (some ⟨g, 0, none⟩) n n) n (((l.take k).map (Value.int .i64)) ++ List.replicate (n - k) (.int .i64 0))) (fun i _ => n - (intOf i).toNat)
  case atStart => exact ⟨0, by omega, rfl, HB0.out, by simpa using Hmo.out⟩
  case round =>
    obtain ⟨k, hk, rfl, hB, hO⟩ := hrel
    by_cases hlt : k < n
    · obtain ⟨b, o, rfl, hb, hc, hlo, hhi⟩ := H4.out k hlt
      have hb' := World.block_lt_of_cell? w _ hc
      have c1 : wr.cell? ⟨b, o + k, none⟩ = some (Value.int .i64 (l[k]?.getD 0)) := by rw [hB.cell (by rw [Hg.out]; exact hb')]; exact hc
      have c2 := hO.cellAt k (by omega)
      have c2' : wr.cell? ⟨g, k, none⟩ = some (.int .i64 0) := by
        have hlen : ((l.take k).map (Value.int .i64)).length = k := by have := Hn.out; simp; omega
        rw [c2, List.getElem?_append_right (by rw [hlen]; exact Nat.le_refl _), hlen, Nat.sub_self, List.getElem?_replicate, if_pos (by omega)]
      have c3 := hO.frozenAt k
      have HS := Lib.hid (hO.stored k (Value.int .i64 (l[k]?.getD 0)))
      clear c2 hO hc hb hb'
      have HX := Lib.hid (take_succ_map 0 (Value.int .i64) l k n (.int .i64 0) Hn.out.symm hlt)
      generalize l[k]?.getD 0 = x at *
      go_wp2
      go_roundw
      case rel => exact ⟨k + 1, by omega, by go_num, hB.setCell (Nat.le_refl _) _, by rw [← HX.out]; exact HS.out.1⟩
      case measure => simp [intOf]; omega
    · obtain rfl : k = n := by omega
      go_wp2
      go_ret
      have hl2 : l.take k = l := by rw [Hn.out, List.take_length]
      rw [hl2, Nat.sub_self, List.replicate_zero, List.append_nil] at hO
      refine makes_flat (g := g) (Value.int .i64) rfl (fun x hx => ?_) (by rw [← Hn.out]; exact hO) hB Hg.out
      obtain ⟨i, hi, rfl⟩ := List.getElem_of_mem hx
      obtain ⟨b, o, _, _, _, h5, h6⟩ := H4.out i (by rw [Hn.out]; exact hi)
      try simp [List.getElem?_eq_getElem hi] at h5 h6
      exact ⟨⟨rfl, h5, h6⟩, rfl⟩

set_option maxHeartbeats 400000 in
theorem eqInt64S_any (va vb : Value) (la lb : List Int) (B B' : Nat) (w : World) (ha : intsE.rd w B [va] la) (hb : intsE.rd w B' [vb] lb) :
    Calls Tryz.prog 73 #[va, vb] w (Gives (.bool (decide (la = lb))) w) := by
  obtain ⟨a, ca, rfl, a1, a2, _, a4⟩ := rd_ints ha
  obtain ⟨b, cb, rfl, b1, b2, _, b4⟩ := rd_ints hb
  clear ha hb
  have H4 := Lib.hid a4; clear a4
  have K4 := Lib.hid b4; clear b4
  by_cases hlen : la.length = lb.length
  · obtain ⟨n, hn⟩ : ∃ n, n = la.length := ⟨_, rfl⟩
    rw [← hn] at hlen H4 a1 ⊢
    rw [← hlen] at K4 b1 ⊢
    have Hn := Lib.hid hn; clear hn
    have Hl := Lib.hid hlen; clear hlen
    go_enter Tryz.func73, Tryz.ntmps73
    go_wp2
    go_loopw [5] (fun i wr => ∃ k : Nat, k ≤ n ∧ i = .int .i64 k ∧ Below w.heap.size w wr ∧ Hid (∀ i, i < k → la[i]?.getD 0 = lb[i]?.getD 0)) (fun i _ => n - (intOf i).toNat)
    case atStart => exact ⟨0, by omega, rfl, Below.refl _ _, Lib.hid (fun i hi => absurd hi (by omega))⟩
    case round =>
      obtain ⟨k, hk, rfl, hB, HE⟩ := hrel
      by_cases hlt : k < n
      · obtain ⟨p, o, rfl, _, hc, -, -⟩ := H4.out k hlt
        obtain ⟨p', o', rfl, _, hc', -, -⟩ := K4.out k hlt
        have c1 := (hB.cell (World.block_lt_of_cell? w _ hc)).trans hc
        have c2 := (hB.cell (World.block_lt_of_cell? w _ hc')).trans hc'
        clear hc hc'
        generalize hx : la[k]?.getD 0 = x at *
        generalize hy : lb[k]?.getD 0 = y at *
        have HX := Lib.hid hx; have HY := Lib.hid hy; clear hx hy
        by_cases he : x = y
        · have heb : (x != y) = false := by simp [he]
          have He := Lib.hid he; clear he
          go_wp2
          go_quiet (fail)
          go_wp2
          go_roundw
          case rel => exact ⟨k + 1, by omega, by go_num, below_drewN hB _, Lib.hid (fun i hi => by by_cases h : i = k; (subst h; rw [HX.out, HY.out]; exact He.out); exact HE.out i (by omega))⟩
          case measure => simp [intOf]; omega
        · have heb : (x != y) = true := by simpa using he
          have He := Lib.hid he; clear he
          go_wp2
          go_quiet (fail)
          go_wp2
          go_ret
          have : la ≠ lb := fun e => He.out (by rw [← HX.out, ← HY.out, e])
          exact ⟨by simp [this], below_drewN hB _⟩
      · obtain rfl : k = n := by omega
        go_wp2
        go_ret
        have : la = lb := ext_getD 0 (by rw [← Hn.out, Hl.out]) (fun i hi => HE.out i (by rw [Hn.out]; exact hi))
        exact ⟨by simp [this], hB⟩
  · have hb := bne_len hlen
    have : la ≠ lb := fun e => hlen (by rw [e])
    have Ht := Lib.hid this; clear this
    go_enter Tryz.func73, Tryz.ntmps73
    go_wp2
    go_ret
    exact ⟨by simp [Ht.out], Below.refl _ _⟩

theorem eqInt64S_is (r : Bool) (va vb : Value) (la lb : List Int) (B B' : Nat) (w : World) (hr : decide (la = lb) = r) (ha : intsE.rd w B [va] la) (hb : intsE.rd w B' [vb] lb) :
    Calls Tryz.prog 73 #[va, vb] w (Gives (.bool r) w) := hr ▸ eqInt64S_any va vb la lb B B' w ha hb

set_option maxHeartbeats 400000 in
theorem szInt64S_any (v : Value) (l : List Int) (B : Nat) (w : World) (left : Int) (h : intsE.rd w B [v] l) (h0 : 0 ≤ left) (h1 : left ≤ 1048576) :
    Calls Tryz.prog 62 #[v, .int .i64 left] w (Gives (.int .i64 (lim l.length left)) w) := by
  have a1 := len_le h
  obtain ⟨a, n, cap, rfl⟩ := rd_slice h
  obtain ⟨n', cap', hv, -⟩ := h
  obtain rfl : n = l.length := by simp at hv; exact hv.2.1
  clear hv
  by_cases hlt : left < l.length
  · have hr := Lib.hid (lim_of_lt hlt)
    have ht : left - (l.length : Int) < 0 := by omega
    go_enter Tryz.func62, Tryz.ntmps62
    go_wp2
    go_ret
    exact ⟨by rw [hr.out]; rfl, Below.refl _ _⟩
  · have hr := Lib.hid (lim_of_ge hlt)
    have ht : ¬ left - (l.length : Int) < 0 := by omega
    go_enter Tryz.func62, Tryz.ntmps62
    go_wp2
    go_ret
    exact ⟨by rw [hr.out]; rfl, Below.refl _ _⟩

end Go.Proofs.YtcifdkliiljmkaaGreatDoor

/-
  Contracts of the library's ContainsFunc and IndexFunc at the program's types, for whatever function value that answers a Bool of the element; and of the smallest functions of the program.
-/
namespace Go.Proofs.YtcifdkliiljmkaaGreatDoor
open Go.RowKit

/-- A number lies in a range. -/
def within (n lo hi : Int) : Bool := decide (lo ≤ n) && decide (n ≤ hi)

theorem within_true {n lo hi : Int} : within n lo hi = true ↔ lo ≤ n ∧ n ≤ hi := by simp [within]
theorem within_eq {n lo hi : Int} (h : lo ≤ n ∧ n ≤ hi) : within n lo hi = true := within_true.2 h
theorem within_ne {n lo hi : Int} (h : ¬ (lo ≤ n ∧ n ≤ hi)) : within n lo hi = false := by
  rw [Bool.eq_false_iff]; exact fun e => h (within_true.1 e)

theorem within_k (n lo hi : Int) (w : World) : Calls Tryz.prog 92 #[.int .i64 n, .int .i64 lo, .int .i64 hi] w (Keeps (.bool (within n lo hi)) w) := by
  by_cases h1 : lo ≤ n
  · have hr : within n lo hi = decide (n ≤ hi) := by simp [within, h1]
    have Hr := Lib.hid hr; clear hr
    go_enter Tryz.func92, Tryz.ntmps92
    go_wp2
    go_ret
    exact ⟨by rw [Hr.out]; rfl, rfl⟩
  · have hr : within n lo hi = false := within_ne (fun h => h1 h.1)
    have Hr := Lib.hid hr; clear hr
    go_enter Tryz.func92, Tryz.ntmps92
    go_wp2
    go_ret
    exact ⟨by rw [Hr.out]; rfl, rfl⟩

theorem l00In_k (n lo hi : Int) (w : World) : Calls Tryz.prog 87 #[.int .i64 n, .int .i64 lo, .int .i64 hi] w (Keeps (.bool (within n lo hi)) w) := by
  by_cases h1 : lo ≤ n
  · have hr : within n lo hi = decide (n ≤ hi) := by simp [within, h1]
    have Hr := Lib.hid hr; clear hr
    go_enter Tryz.func87, Tryz.ntmps87
    go_wp2
    go_ret
    exact ⟨by rw [Hr.out]; rfl, rfl⟩
  · have hr : within n lo hi = false := within_ne (fun h => h1 h.1)
    have Hr := Lib.hid hr; clear hr
    go_enter Tryz.func87, Tryz.ntmps87
    go_wp2
    go_ret
    exact ⟨by rw [Hr.out]; rfl, rfl⟩

theorem within_any (n lo hi : Int) (w : World) : Calls Tryz.prog 92 #[.int .i64 n, .int .i64 lo, .int .i64 hi] w (Gives (.bool (within n lo hi)) w) :=
  (within_k n lo hi w).mono fun _ _ ⟨h1, h2⟩ => ⟨h1, h2 ▸ Below.refl _ _⟩

theorem within_kis (r : Bool) (n lo hi : Int) (w : World) (h : within n lo hi = r) : Calls Tryz.prog 92 #[.int .i64 n, .int .i64 lo, .int .i64 hi] w (Keeps (.bool r) w) := h ▸ within_k n lo hi w

theorem l00In_is (r : Bool) (n lo hi : Int) (w : World) (h : within n lo hi = r) : Calls Tryz.prog 87 #[.int .i64 n, .int .i64 lo, .int .i64 hi] w (Keeps (.bool r) w) := h ▸ l00In_k n lo hi w

theorem all_of_idx {α : Type} (d : α) (p : α → Bool) (l : List α) (h : ∀ i, i < l.length → p (l[i]?.getD d) = true) : l.all p = true := by
  rw [List.all_eq_true]
  intro x hx
  obtain ⟨i, hi, rfl⟩ := List.getElem_of_mem hx
  have := h i hi
  simpa [List.getElem?_eq_getElem hi] using this

theorem all_not_idx {α : Type} (d : α) (p : α → Bool) (l : List α) (i : Nat) (hi : i < l.length) (h : p (l[i]?.getD d) = false) : l.all p = false := by
  rw [Bool.eq_false_iff]
  intro ha
  rw [List.all_eq_true] at ha
  have := ha l[i] (List.getElem_mem hi)
  simp [List.getElem?_eq_getElem hi] at h
  rw [h] at this
  cases this

/-- Where a function answers yes for the first time, -1 where it never does. -/
def firstIdx {α : Type} (p : α → Bool) : List α → Int
  | [] => -1
  | a :: l => if p a then 0 else if firstIdx p l < 0 then -1 else firstIdx p l + 1

theorem firstIdx_none {α : Type} (p : α → Bool) (l : List α) (h : ∀ x, x ∈ l → p x = false) : firstIdx p l = -1 := by
  induction l with
  | nil => rfl
  | cons a l ih =>
    have h1 := ih (fun x hx => h x (by simp [hx]))
    simp [firstIdx, h a (by simp), h1]

theorem firstIdx_at {α : Type} (p : α → Bool) (l : List α) (k : Nat) (x : α) (hk : l[k]? = some x) (hx : p x = true) (h : ∀ i y, i < k → l[i]? = some y → p y = false) : firstIdx p l = k := by
  induction l generalizing k with
  | nil => simp at hk
  | cons a l ih =>
    cases k with
    | zero =>
      simp only [List.getElem?_cons_zero, Option.some.injEq] at hk
      subst hk
      simp [firstIdx, hx]
    | succ k =>
      have h0 := h 0 a (by omega) rfl
      have h1 := ih k (by simpa using hk) (fun i y hi hy => h (i + 1) y (by omega) (by simpa using hy))
      have h2 : ¬ ((k : Int) < 0) := by omega
      simp [firstIdx, h0, h1, h2]

theorem firstIdx_any {α : Type} (p : α → Bool) (l : List α) : decide (0 ≤ firstIdx p l) = l.any p := by
  induction l with
  | nil => rfl
  | cons a l ih =>
    rw [List.any_cons, ← ih]
    have e : firstIdx p (a :: l) = if p a = true then 0 else if firstIdx p l < 0 then -1 else firstIdx p l + 1 := rfl
    rw [e]
    by_cases h : p a = true
    · simp [h]
    · rw [if_neg h]
      have h' : p a = false := by simpa using h
      rw [h', Bool.false_or]
      by_cases h2 : firstIdx p l < 0
      · rw [if_pos h2, decide_eq_false (by omega), decide_eq_false (by omega)]
      · rw [if_neg h2, decide_eq_true (by omega), decide_eq_true (by omega)]

set_option maxHeartbeats 400000 in
theorem indexFunc_ints (v : Value) (l : List Int) (B : Nat) (w : World) (f : FuncId) (x y : Array Value) (p : Int → Bool) (hB0 : B ≤ w.heap.size) (h : intsE.rd w B [v] l)
    (hcf : ∀ args w1, (callFunc f args).run Tryz.prog w1 = .ok (.enter f args) w1)
    (hf : ∀ z w1, Below w.heap.size w w1 → Calls Tryz.prog f (x.push (.int .i64 z) ++ y) w1 (Gives (.bool (p z)) w1)) :
    Calls Tryz.prog 127 #[v, .func (.func f) x y] w (Gives (.int .i64 (firstIdx p l)) w) := by
  obtain ⟨a, cap, rfl, h1, h2, -, h4⟩ := rd_ints h
  obtain ⟨n, hn⟩ : ∃ n, n = l.length := ⟨_, rfl⟩
  rw [← hn] at h4 h1 ⊢
  have Hn := Lib.hid hn; clear hn h
  have H4 := Lib.hid h4; clear h4
  have Hf := Lib.hid hf; clear hf
  go_enter Tryz.func127, Tryz.ntmps127
  go_wp2
  go_loopw [4, 5, 8] (fun _ _ i wr => ∃ k : Nat, k ≤ n ∧ i = .int .i64 k ∧ Below w.heap.size w wr ∧ Hid (∀ i y, i < k → l[i]? = some y → p y = false)) (fun _ _ i _ => n - (intOf i).toNat)
  case atStart => exact ⟨0, by omega, rfl, Below.refl _ _, Lib.hid (fun i y hi => absurd hi (by omega))⟩
  case round =>
    obtain ⟨k, hk, rfl, hB, HE⟩ := hrel
    by_cases hlt : k < n
    · obtain ⟨b, o, rfl, -, hc, -, -⟩ := H4.out k hlt
      have c1 := (hB.cell (World.block_lt_of_cell? w _ hc)).trans hc
      clear hc
      have hkl := get_some 0 (l := l) (k := k) (by rw [← Hn.out]; exact hlt)
      have HK := Lib.hid hkl; clear hkl
      go_wp2_with fail
      refine (Hf.out _ _ hB).mono ?_
      rintro e w1 ⟨rfl, hbl⟩
      have B1 := Lib.hid (hB.trans (hbl.mono hB.size)); clear hB hbl
      by_cases hp : p (l[k]?.getD 0) = true
      · go_wp2
        go_ret
        refine ⟨?_, B1.out⟩
        rw [firstIdx_at p l k _ HK.out hp HE.out]
        rfl
      · rw [Bool.not_eq_true] at hp
        go_wp2
        go_roundw
        case rel =>
          refine ⟨k + 1, by omega, by go_num, B1.out, Lib.hid (fun i y hi hy => ?_)⟩
          by_cases e : i = k
          · subst e
            rw [HK.out] at hy
            cases hy
            exact hp
          · exact HE.out i y (by omega) hy
        case measure => simp [intOf]; omega
    · obtain rfl : k = n := by omega
      go_wp2
      go_ret
      refine ⟨?_, hB⟩
      rw [firstIdx_none p l (fun x hx => ?_)]
      · rfl
      · obtain ⟨i, hi, rfl⟩ := List.getElem_of_mem hx
        exact HE.out i _ (by rw [Hn.out]; exact hi) (List.getElem?_eq_getElem hi)

set_option maxHeartbeats 400000 in
theorem containsFunc_ints (v : Value) (l : List Int) (B : Nat) (w : World) (f : FuncId) (x y : Array Value) (p : Int → Bool) (hB0 : B ≤ w.heap.size) (h : intsE.rd w B [v] l)
    (hcf : ∀ args w1, (callFunc f args).run Tryz.prog w1 = .ok (.enter f args) w1)
    (hf : ∀ z w1, Below w.heap.size w w1 → Calls Tryz.prog f (x.push (.int .i64 z) ++ y) w1 (Gives (.bool (p z)) w1)) :
    Calls Tryz.prog 114 #[v, .func (.func f) x y] w (Gives (.bool (l.any p)) w) := by
  obtain ⟨a, n, cap, rfl⟩ := rd_slice h
  have Hf := Lib.hid hf; clear hf
  have H := Lib.hid h; clear h
  have Hcf := Lib.hid hcf; clear hcf
  go_enter Tryz.func114, Tryz.ntmps114
  go_wp2_with fail
  refine (indexFunc_ints _ l B _ f x y p hB0 H.out Hcf.out Hf.out).mono ?_
  rintro e w1 ⟨rfl, hbl⟩
  have he := Lib.hid (firstIdx_any p l)
  generalize firstIdx p l = j at *
  go_wp2
  go_ret
  exact ⟨by rw [← he.out]; rfl, hbl⟩

end Go.Proofs.YtcifdkliiljmkaaGreatDoor

/-
  Plain lemmas on a range of numbers. No program is named here.
-/
namespace Go.Proofs.YtcifdkliiljmkaaGreatDoor

theorem range_all {p : Nat → Bool} {n : Nat} (h : ∀ k, k < n → p k = true) : (List.range n).all p = true := by
  rw [List.all_eq_true]; intro x hx; exact h x (List.mem_range.1 hx)
theorem range_not {p : Nat → Bool} {n k : Nat} (hk : k < n) (h : p k = false) : (List.range n).all p = false := by
  rw [Bool.eq_false_iff]; intro ha; rw [List.all_eq_true] at ha; have := ha k (List.mem_range.2 hk); rw [h] at this; cases this

end Go.Proofs.YtcifdkliiljmkaaGreatDoor

/-
  What may be written with a move: the program's and the reference's test of a text.
-/
namespace Go.Proofs.YtcifdkliiljmkaaGreatDoor
open Go.RowKit Go.PlainAid

def outOk (t : ByteArray) : Bool := decide (t.size ≤ 3) && t.data.toList.all fun b => [97, 98, 99].contains b

theorem drop_all (p : UInt8 → Bool) : ∀ l : List UInt8, l.all p = true → l.dropWhile p = []
  | [], _ => rfl
  | b :: l, h => by
    rw [List.all_cons, Bool.and_eq_true] at h
    rw [List.dropWhile_cons, if_pos h.1]
    exact drop_all p l h.2
theorem drop_some (p : UInt8 → Bool) : ∀ l : List UInt8, l.all p = false → ∃ b r, l.dropWhile p = b :: r ∧ p b = false
  | [], h => by cases h
  | b :: l, h => by
    rw [List.dropWhile_cons]
    by_cases hb : p b = true
    · rw [if_pos hb]
      rw [List.all_cons, hb, Bool.true_and] at h
      exact drop_some p l h
    · rw [if_neg hb]
      exact ⟨b, l, rfl, by simpa using hb⟩
theorem trim_all (l cs : List UInt8) (h : l.all (fun b => cs.contains b) = true) : Lib.trimS l cs = [] := by
  have h1 : l.reverse.dropWhile (cs.contains ·) = [] := drop_all _ _ (by rw [List.all_reverse]; exact h)
  unfold Lib.trimS Lib.trimRightS Lib.trimLeftS
  rw [h1]
  rfl
theorem trim_some (l cs : List UInt8) (h : l.all (fun b => cs.contains b) = false) : Lib.trimS l cs ≠ [] := by
  obtain ⟨b, r, h1, h2⟩ := drop_some (cs.contains ·) l.reverse (by rw [List.all_reverse]; exact h)
  unfold Lib.trimS Lib.trimRightS Lib.trimLeftS
  rw [h1]
  intro e
  have h3 : (b :: r).reverse.all (cs.contains ·) = false := by rw [List.all_reverse, List.all_cons, h2]; rfl
  obtain ⟨b', r', h4, -⟩ := drop_some (cs.contains ·) _ h3
  rw [h4] at e
  cases e

set_option maxHeartbeats 1000000 in
theorem isOut_any (t : ByteArray) (w : World) (hs : t.size ≤ maxLen) :
    Calls Tryz.prog 54 #[.string t] w (Gives (.bool (outOk t)) w) := by
  have hcon := Any.strings_Trim_laid Tryz.lays160 (by kernel_rfl) t ⟨#[97, 98, 99]⟩ w hs (by decide) (ascii_of_all (by decide))
  change Calls Tryz.prog 80 _ _ (fun e w' => e = .returned (.string ⟨(Lib.trimS t.data.toList [97, 98, 99]).toArray⟩) ∧ Below w.heap.size w w') at hcon
  unfold outOk
  by_cases h3 : t.size ≤ 3
  case neg =>
    rw [decide_eq_false h3, Bool.false_and]
    have t1 : ¬ (t.size : Int) ≤ 3 := by omega
    clear hcon
    go_enter Tryz.func54, Tryz.ntmps54
    go_wp2
    go_ret
    exact ⟨rfl, Below.refl _ _⟩
  rw [decide_eq_true h3, Bool.true_and]
  have t1 : (t.size : Int) ≤ 3 := by omega
  cases hall : t.data.toList.all fun b => [97, 98, 99].contains b
  · have hne := trim_some _ _ hall
    generalize Lib.trimS t.data.toList [97, 98, 99] = r at hcon hne
    go_enter Tryz.func54, Tryz.ntmps54
    go_wp2_with fail
    refine hcon.mono ?_
    rintro e w1 ⟨rfl, hB⟩
    obtain ⟨b, r', rfl⟩ := List.exists_cons_of_ne_nil hne
    go_wp2
    go_ret
    exact ⟨rfl, hB⟩
  · have he := trim_all _ _ hall
    rw [he] at hcon
    go_enter Tryz.func54, Tryz.ntmps54
    go_wp2_with fail
    refine hcon.mono ?_
    rintro e w1 ⟨rfl, hB⟩
    go_wp2
    go_ret
    exact ⟨rfl, hB⟩

theorem isOut_is (r : Bool) (t : ByteArray) (w : World) (hr : outOk t = r) (hs : t.size ≤ maxLen) : Calls Tryz.prog 54 #[.string t] w (Gives (.bool r) w) := hr ▸ isOut_any t w hs

/-- A word in the first letters. -/
def wordIn (n : Int) (t : ByteArray) : Bool := (List.range t.size).all fun k => within (bt t k - 97) 0 (n - 1)

set_option maxHeartbeats 1000000 in
theorem l01Word_any (n : Int) (t : ByteArray) (w : World) (hn : 1 ≤ n ∧ n ≤ 100) (hs : t.size ≤ maxLen) :
    Calls Tryz.prog 77 #[.int .i64 n, .string t] w (Keeps (.bool (wordIn n t)) w) := by
  obtain ⟨m, hm⟩ : ∃ m, m = t.size := ⟨_, rfl⟩
  have hb := get_bt t
  have HW : Hid (wordIn n t = (List.range m).all fun k => within (bt t k - 97) 0 (n - 1)) := Lib.hid (by unfold wordIn; rw [hm])
  have wn : IntKind.i64.wrap (n - 1) = n - 1 := IntWalk.i64_in _ ⟨by omega, by omega⟩
  simp only [maxLen] at hs
  go_enter Tryz.func77, Tryz.ntmps77
  go_wp2
  go_loop [5] (fun i => ∃ k : Nat, k ≤ t.size ∧ i = .int .i64 k ∧ Hid (∀ i, i < k → within (bt t i - 97) 0 (n - 1) = true)) (fun i => t.size - (intOf i).toNat)
  case atStart => exact ⟨0, by omega, rfl, Lib.hid (fun i hi => absurd hi (by omega))⟩
  case round =>
    obtain ⟨k, hk, rfl, HE⟩ := hrel
    by_cases hlt : k < t.size
    case neg =>
      have t1 : ¬ (k : Int) < (t.size : Int) := by omega
      go_wp2
      go_ret
      have : wordIn n t = true := by rw [HW.out]; exact range_all (fun i hi => HE.out i (by omega))
      exact ⟨by rw [this]; rfl, rfl⟩
    have t1 : (k : Int) < (t.size : Int) := by omega
    have b0 := bt_nonneg t k
    have b1 := bt_le t k
    cases hok : within (bt t k - 97) 0 (n - 1)
    · have HOK := Lib.hid hok
      clear hok
      go_wp2_with fail
      refine (l00In_is false _ _ _ _ HOK.out).mono ?_
      rintro e w1 ⟨rfl, rfl⟩
      go_wp2
      go_ret
      have : wordIn n t = false := by rw [HW.out, hm]; exact range_not hlt HOK.out
      exact ⟨by rw [this]; rfl, rfl⟩
    · have HOK := Lib.hid hok
      clear hok
      go_wp2_with fail
      refine (l00In_is true _ _ _ _ HOK.out).mono ?_
      rintro e w1 ⟨rfl, rfl⟩
      go_wp2
      go_round
      case rel => exact ⟨k + 1, by omega, by go_num, Lib.hid (fun i hi => by by_cases h : i = k; (subst h; exact HOK.out); exact HE.out i (by omega))⟩
      case measure => simp [intOf]; omega

theorem l01Word_is (r : Bool) (n : Int) (t : ByteArray) (w : World) (hr : wordIn n t = r) (hn : 1 ≤ n ∧ n ≤ 100) (hs : t.size ≤ maxLen) :
    Calls Tryz.prog 77 #[.int .i64 n, .string t] w (Keeps (.bool r) w) := hr ▸ l01Word_any n t w hn hs

theorem abc_in (b : UInt8) : ([97, 98, 99] : List UInt8).contains b = within ((b.toNat : Int) - 97) 0 2 := by
  have key : (List.range 256).all (fun n => (([97, 98, 99] : List UInt8).contains (UInt8.ofNat n)) == within ((n : Int) - 97) 0 2) = true := by kernel_rfl
  have := List.all_eq_true.1 key b.toNat (List.mem_range.2 b.toNat_lt)
  simpa using this

theorem outOk_word (t : ByteArray) : outOk t = (decide (t.size ≤ 3) && wordIn 3 t) := by
  unfold outOk
  congr 1
  rw [Bool.eq_iff_iff, List.all_eq_true]
  unfold wordIn
  rw [List.all_eq_true]
  have hsz := Lib.size_eq t
  constructor
  · intro h k hk
    have hk := List.mem_range.1 hk
    have h1 := h (t.data.toList[k]'(by omega)) (List.getElem_mem _)
    rw [abc_in] at h1
    unfold bt
    rw [dif_pos hk]
    exact h1
  · intro h b hb
    obtain ⟨k, hk, rfl⟩ := List.getElem_of_mem hb
    have h1 := h k (List.mem_range.2 (by omega))
    unfold bt at h1
    rw [dif_pos (by omega)] at h1
    rw [abc_in]
    exact h1

set_option maxHeartbeats 1000000 in
theorem l07Text_any (t : ByteArray) (w : World) (hs : t.size ≤ maxLen) :
    Calls Tryz.prog 47 #[.string t] w (Keeps (.bool (outOk t)) w) := by
  rw [outOk_word]
  by_cases h3 : t.size ≤ 3
  case neg =>
    rw [decide_eq_false h3, Bool.false_and]
    have t1 : ¬ (t.size : Int) ≤ 3 := by omega
    go_enter Tryz.func47, Tryz.ntmps47
    go_wp2
    go_ret
    exact ⟨rfl, rfl⟩
  rw [decide_eq_true h3, Bool.true_and]
  have t1 : (t.size : Int) ≤ 3 := by omega
  cases hw : wordIn 3 t
  · have HW := Lib.hid hw
    clear hw
    go_enter Tryz.func47, Tryz.ntmps47
    go_wp2_with fail
    refine (l01Word_is false _ _ _ HW.out (by omega) hs).mono ?_
    rintro e w1 ⟨rfl, rfl⟩
    go_wp2
    go_ret
    exact ⟨rfl, rfl⟩
  · have HW := Lib.hid hw
    clear hw
    go_enter Tryz.func47, Tryz.ntmps47
    go_wp2_with fail
    refine (l01Word_is true _ _ _ HW.out (by omega) hs).mono ?_
    rintro e w1 ⟨rfl, rfl⟩
    go_wp2
    go_ret
    exact ⟨rfl, rfl⟩

theorem l07Text_is (r : Bool) (t : ByteArray) (w : World) (hr : outOk t = r) (hs : t.size ≤ maxLen) : Calls Tryz.prog 47 #[.string t] w (Keeps (.bool r) w) := hr ▸ l07Text_any t w hs

set_option maxHeartbeats 1000000 in
theorem notOut_any (t : ByteArray) (w : World) (hs : t.size ≤ maxLen) :
    Calls Tryz.prog 78 #[.string t] w (Gives (.bool (!outOk t)) w) := by
  obtain ⟨r, hr⟩ : ∃ r, r = outOk t := ⟨_, rfl⟩
  rw [← hr]
  have HR := Lib.hid hr.symm
  clear hr
  cases r <;>
  · go_enter Tryz.func78, Tryz.ntmps78
    go_wp2_with fail
    refine (isOut_is _ _ _ HR.out hs).mono ?_
    rintro e w1 ⟨rfl, hB⟩
    go_wp2
    go_ret
    exact ⟨rfl, hB⟩

end Go.Proofs.YtcifdkliiljmkaaGreatDoor

/-
  What a right move is, and the contracts of the functions that ask it (written by a program of this claim's own, gen_moveok.py).
-/
namespace Go.Proofs.YtcifdkliiljmkaaGreatDoor
open Go.RowKit

def isStopB (m : Move) : Bool := (m.to == -1 || m.to == -2) && m.dir == 0

/-- A turner's move is right for so many states and letters at the index of a letter or mark. -/
def moveOk (m : Move) (states letters at_ : Int) : Bool :=
  isStopB m || (within m.to 0 (states - 1) && within m.dir (-1) 1 && !(at_ == letters && m.dir == -1) && !(at_ == letters + 1 && m.dir == 1))

/-- A pebbler's. -/
def pmoveOk (m : PMove) (states letters at_ : Int) (lies : Bool) : Bool :=
  moveOk ⟨m.to, m.dir⟩ states letters at_ && within m.does 0 2 && (!(decide (m.to < 0) && m.does != 0) && !(lies && m.does == 1) && !(!lies && m.does == 2))

theorem isStop_any (m : Move) (w : World) : Calls Tryz.prog 116 #[.agg #[.int .i64 m.to, .int .i64 m.dir]] w (Gives (.bool (isStopB m)) w) := by
  cases h1 : (m.to == -1) <;> cases h2 : (m.to == -2) <;> cases h3 : (m.dir == 0)
  all_goals
    have hr := Lib.hid (show isStopB m = _ by unfold isStopB; rw [h1, h2, h3])
    go_enter Tryz.func116, Tryz.ntmps116
    go_wp2
    go_ret
    exact ⟨by rw [hr.out]; rfl, (Below.refl _ _).alloc (Nat.le_refl _) _⟩

theorem isStop_is (r : Bool) (m : Move) (w : World) (h : isStopB m = r) : Calls Tryz.prog 116 #[.agg #[.int .i64 m.to, .int .i64 m.dir]] w (Gives (.bool r) w) := h ▸ isStop_any m w

theorem stops_any (m : Move) (w : World) : Calls Tryz.prog 70 #[.agg #[.int .i64 m.to, .int .i64 m.dir]] w (Gives (.bool (decide (m.to < 0))) w) := by
  go_enter Tryz.func70, Tryz.ntmps70
  go_wp2
  go_ret
  exact ⟨rfl, (Below.refl _ _).alloc (Nat.le_refl _) _⟩

set_option maxHeartbeats 1000000 in
theorem isMove_any (m : Move) (states letters at_ : Int) (w : World) (hs : 0 ≤ states ∧ states ≤ 1152921504606846976) (hl : -1152921504606846976 ≤ letters ∧ letters ≤ 1152921504606846976) :
    Calls Tryz.prog 99 #[.agg #[.int .i64 m.to, .int .i64 m.dir], .int .i64 states, .int .i64 letters, .int .i64 at_] w (Gives (.bool (moveOk m states letters at_)) w) := by
  have hw1 : IntKind.i64.wrap (states - 1) = states - 1 := IntWalk.i64_in _ ⟨by omega, by omega⟩
  have hw2 : IntKind.i64.wrap (letters + 1) = letters + 1 := IntWalk.i64_in _ ⟨by omega, by omega⟩
  clear hs hl
  cases h0 : isStopB m
  case true =>
    have hr := Lib.hid (show moveOk m states letters at_ = true by unfold moveOk; rw [h0]; rfl)
    have H0 := Lib.hid h0; clear h0
    go_enter Tryz.func99, Tryz.ntmps99
    go_wp2_with fail
    generalize hW : w.alloc _ = w0
    obtain ⟨A0, hB⟩ := blk1 hW
    clear hW
    refine (isStop_is true m _ H0.out).mono ?_
    rintro e w1 ⟨rfl, hbl⟩
    have B1 := hB.trans (hbl.mono hB.size)
    clear hbl hB A0
    go_wp2
    go_ret
    exact ⟨by rw [hr.out]; rfl, B1⟩
  have H0 := Lib.hid h0
  cases h1 : within m.to 0 (states - 1)
  case false =>
    have hr := Lib.hid (show moveOk m states letters at_ = false by unfold moveOk; rw [h0, h1]; rfl)
    have H1 := Lib.hid h1; clear h0 h1
    go_enter Tryz.func99, Tryz.ntmps99
    go_wp2_with fail
    generalize hW : w.alloc _ = w0
    obtain ⟨A0, hB⟩ := blk1 hW
    clear hW
    refine (isStop_is false m _ H0.out).mono ?_
    rintro e w1 ⟨rfl, hbl⟩
    have B1 := hB.trans (hbl.mono hB.size)
    have A1 := A0.of hbl A0.lt
    have c0 := A1.cell 0 rfl
    have c1 := A1.cell 1 rfl
    clear hbl hB A0 A1
    have HB1 := Lib.hid B1; clear B1
    go_wp2_with fail
    refine (within_kis false _ _ _ _ H1.out).mono ?_
    rintro e w2 ⟨rfl, rfl⟩
    go_wp2
    go_ret
    exact ⟨by rw [hr.out]; rfl, HB1.out⟩
  have H1 := Lib.hid h1
  cases h2 : within m.dir (-1) 1
  case false =>
    have hr := Lib.hid (show moveOk m states letters at_ = false by unfold moveOk; rw [h0, h1, h2]; rfl)
    have H2 := Lib.hid h2; clear h0 h1 h2
    go_enter Tryz.func99, Tryz.ntmps99
    go_wp2_with fail
    generalize hW : w.alloc _ = w0
    obtain ⟨A0, hB⟩ := blk1 hW
    clear hW
    refine (isStop_is false m _ H0.out).mono ?_
    rintro e w1 ⟨rfl, hbl⟩
    have B1 := hB.trans (hbl.mono hB.size)
    have A1 := A0.of hbl A0.lt
    have c0 := A1.cell 0 rfl
    have c1 := A1.cell 1 rfl
    clear hbl hB A0 A1
    have HB1 := Lib.hid B1; clear B1
    go_wp2_with fail
    refine (within_kis true _ _ _ _ H1.out).mono ?_
    rintro e w2 ⟨rfl, rfl⟩
    go_wp2_with fail
    refine (within_kis false _ _ _ _ H2.out).mono ?_
    rintro e w3 ⟨rfl, rfl⟩
    go_wp2
    go_ret
    exact ⟨by rw [hr.out]; rfl, HB1.out⟩
  have H2 := Lib.hid h2
  cases h3 : (at_ == letters) <;> cases h4 : (m.dir == -1) <;> cases h5 : (at_ == letters + 1) <;> cases h6 : (m.dir == 1)
  all_goals
    have hr := Lib.hid (show moveOk m states letters at_ = _ by unfold moveOk; rw [h0, h1, h2, h3, h4, h5, h6])
    clear h0 h1 h2
    go_enter Tryz.func99, Tryz.ntmps99
    go_wp2_with fail
    generalize hW : w.alloc _ = w0
    obtain ⟨A0, hB⟩ := blk1 hW
    clear hW
    refine (isStop_is false m _ H0.out).mono ?_
    rintro e w1 ⟨rfl, hbl⟩
    have B1 := hB.trans (hbl.mono hB.size)
    have A1 := A0.of hbl A0.lt
    have c0 := A1.cell 0 rfl
    have c1 := A1.cell 1 rfl
    clear hbl hB A0 A1
    have HB1 := Lib.hid B1; clear B1
    go_wp2_with fail
    refine (within_kis true _ _ _ _ H1.out).mono ?_
    rintro e w2 ⟨rfl, rfl⟩
    go_wp2_with fail
    refine (within_kis true _ _ _ _ H2.out).mono ?_
    rintro e w3 ⟨rfl, rfl⟩
    go_wp2
    go_ret
    exact ⟨by rw [hr.out]; rfl, HB1.out⟩

theorem isMove_is (r : Bool) (m : Move) (states letters at_ : Int) (w : World) (hs : 0 ≤ states ∧ states ≤ 1152921504606846976) (hl : -1152921504606846976 ≤ letters ∧ letters ≤ 1152921504606846976) (h : moveOk m states letters at_ = r) :
    Calls Tryz.prog 99 #[.agg #[.int .i64 m.to, .int .i64 m.dir], .int .i64 states, .int .i64 letters, .int .i64 at_] w (Gives (.bool r) w) := h ▸ isMove_any m states letters at_ w hs hl

set_option maxHeartbeats 1000000 in
theorem l02Move_any (m : Move) (states letters at_ : Int) (w : World) (hs : 0 ≤ states ∧ states ≤ 1152921504606846976) (hl : -1152921504606846976 ≤ letters ∧ letters ≤ 1152921504606846976) :
    Calls Tryz.prog 88 #[.agg #[.int .i64 m.to, .int .i64 m.dir], .int .i64 states, .int .i64 letters, .int .i64 at_] w (Gives (.bool (moveOk m states letters at_)) w) := by
  have hw1 : IntKind.i64.wrap (states - 1) = states - 1 := IntWalk.i64_in _ ⟨by omega, by omega⟩
  have hw2 : IntKind.i64.wrap (letters + 1) = letters + 1 := IntWalk.i64_in _ ⟨by omega, by omega⟩
  clear hs hl
  cases h1 : (m.to == -1)
  case true =>
    have hr := Lib.hid (show moveOk m states letters at_ = (m.dir == 0) by have : m.to = -1 := (by simpa using h1); simp [moveOk, isStopB, within, this])
    go_enter Tryz.func88, Tryz.ntmps88
    go_wp2
    go_ret
    exact ⟨by rw [hr.out]; rfl, (Below.refl _ _).alloc (Nat.le_refl _) _⟩
  cases h2 : (m.to == -2)
  case true =>
    have hr := Lib.hid (show moveOk m states letters at_ = (m.dir == 0) by have : m.to = -2 := (by simpa using h2); simp [moveOk, isStopB, within, this])
    go_enter Tryz.func88, Tryz.ntmps88
    go_wp2
    go_ret
    exact ⟨by rw [hr.out]; rfl, (Below.refl _ _).alloc (Nat.le_refl _) _⟩
  have h0 : isStopB m = false := by unfold isStopB; rw [h1, h2]; rfl
  cases t1 : within m.to 0 (states - 1)
  case false =>
    have hr := Lib.hid (show moveOk m states letters at_ = false by unfold moveOk; rw [h0, t1]; rfl)
    have T1 := Lib.hid t1; clear h0 t1
    go_enter Tryz.func88, Tryz.ntmps88
    go_wp2_with fail
    generalize hW : w.alloc _ = w0
    obtain ⟨A0, hB⟩ := blk1 hW
    clear hW
    have c0 := A0.cell 0 rfl
    have c1 := A0.cell 1 rfl
    clear A0
    have HB1 := Lib.hid hB; clear hB
    refine (l00In_is false _ _ _ _ T1.out).mono ?_
    rintro e w2 ⟨rfl, rfl⟩
    go_wp2
    go_ret
    exact ⟨by rw [hr.out]; rfl, HB1.out⟩
  have T1 := Lib.hid t1
  cases t2 : within m.dir (-1) 1
  case false =>
    have hr := Lib.hid (show moveOk m states letters at_ = false by unfold moveOk; rw [h0, t1, t2]; rfl)
    have T2 := Lib.hid t2; clear h0 t1 t2
    go_enter Tryz.func88, Tryz.ntmps88
    go_wp2_with fail
    generalize hW : w.alloc _ = w0
    obtain ⟨A0, hB⟩ := blk1 hW
    clear hW
    have c0 := A0.cell 0 rfl
    have c1 := A0.cell 1 rfl
    clear A0
    have HB1 := Lib.hid hB; clear hB
    refine (l00In_is true _ _ _ _ T1.out).mono ?_
    rintro e w2 ⟨rfl, rfl⟩
    go_wp2_with fail
    refine (l00In_is false _ _ _ _ T2.out).mono ?_
    rintro e w3 ⟨rfl, rfl⟩
    go_wp2
    go_ret
    exact ⟨by rw [hr.out]; rfl, HB1.out⟩
  have T2 := Lib.hid t2
  cases h3 : (at_ == letters) <;> cases h4 : (m.dir == -1) <;> cases h5 : (at_ == letters + 1) <;> cases h6 : (m.dir == 1)
  all_goals
    have hr := Lib.hid (show moveOk m states letters at_ = _ by unfold moveOk; rw [h0, t1, t2, h3, h4, h5, h6])
    clear h0 t1 t2
    go_enter Tryz.func88, Tryz.ntmps88
    go_wp2_with fail
    generalize hW : w.alloc _ = w0
    obtain ⟨A0, hB⟩ := blk1 hW
    clear hW
    have c0 := A0.cell 0 rfl
    have c1 := A0.cell 1 rfl
    clear A0
    have HB1 := Lib.hid hB; clear hB
    refine (l00In_is true _ _ _ _ T1.out).mono ?_
    rintro e w2 ⟨rfl, rfl⟩
    go_wp2_with fail
    refine (l00In_is true _ _ _ _ T2.out).mono ?_
    rintro e w3 ⟨rfl, rfl⟩
    go_wp2
    go_ret
    exact ⟨by rw [hr.out]; rfl, HB1.out⟩

theorem l02Move_is (r : Bool) (m : Move) (states letters at_ : Int) (w : World) (hs : 0 ≤ states ∧ states ≤ 1152921504606846976) (hl : -1152921504606846976 ≤ letters ∧ letters ≤ 1152921504606846976) (h : moveOk m states letters at_ = r) :
    Calls Tryz.prog 88 #[.agg #[.int .i64 m.to, .int .i64 m.dir], .int .i64 states, .int .i64 letters, .int .i64 at_] w (Gives (.bool r) w) := h ▸ l02Move_any m states letters at_ w hs hl

end Go.Proofs.YtcifdkliiljmkaaGreatDoor

/-
  Contracts of the program's size, isAlphabet and areStates.
-/
namespace Go.Proofs.YtcifdkliiljmkaaGreatDoor
open Go.RowKit

theorem size_ints (v : Value) (l : List Int) (B : Nat) (w : World) (h : intsE.rd w B [v] l) : Calls Tryz.prog 113 #[v] w (Gives (.int .i64 l.length) w) := by
  have hl := len_le h
  obtain ⟨a, cap, rfl, -, -, -, -⟩ := rd_ints h
  clear h
  go_enter Tryz.func113, Tryz.ntmps113
  go_wp2
  go_ret
  exact ⟨rfl, Below.refl _ _⟩

theorem size_intss (v : Value) (l : List (List Int)) (B : Nat) (w : World) (h : intssE.rd w B [v] l) : Calls Tryz.prog 68 #[v] w (Gives (.int .i64 l.length) w) := by
  have hl := len_le h
  obtain ⟨a, cap, rfl, -, -, -, -⟩ := rd_slice1 rfl h
  clear h
  go_enter Tryz.func68, Tryz.ntmps68
  go_wp2
  go_ret
  exact ⟨rfl, Below.refl _ _⟩

theorem isAlphabet_any (n : Int) (w : World) : Calls Tryz.prog 91 #[.int .i64 n] w (Gives (.bool (within n 1 3)) w) := by
  go_enter Tryz.func91, Tryz.ntmps91
  go_wp2_with fail
  refine (within_any _ _ _ _).mono ?_
  rintro e w1 ⟨rfl, hbl⟩
  go_wp2
  go_ret
  exact ⟨rfl, hbl⟩

theorem within_is (r : Bool) (n lo hi : Int) (w : World) (h : within n lo hi = r) : Calls Tryz.prog 92 #[.int .i64 n, .int .i64 lo, .int .i64 hi] w (Gives (.bool r) w) := h ▸ within_any n lo hi w

theorem isAlphabet_is (r : Bool) (n : Int) (w : World) (h : within n 1 3 = r) : Calls Tryz.prog 91 #[.int .i64 n] w (Gives (.bool r) w) := h ▸ isAlphabet_any n w

theorem cf_areStates1 : ∀ args w1, (callFunc 115 args).run Tryz.prog w1 = .ok (.enter 115 args) w1 := fun _ _ => by kernel_rfl

set_option maxHeartbeats 400000 in
theorem areStates1_any (z s : Int) (b o : Nat) (w : World) (hc : w.cell? ⟨b, o, none⟩ = some (.int .i64 s)) (h0 : 0 ≤ s) (h1 : s ≤ 9223372036854775807) :
    Calls Tryz.prog 115 #[.int .i64 z, .pointer (some ⟨b, o, none⟩)] w (Gives (.bool (!within z 0 (s - 1))) w) := by
  go_enter Tryz.func115, Tryz.ntmps115
  go_wp2_with fail
  refine (within_any _ _ _ _).mono ?_
  rintro e w1 ⟨rfl, hbl⟩
  go_wp2
  go_ret
  exact ⟨rfl, hbl⟩

/-- So many numbers, each of them a state. -/
def areStates (l : List Int) (count states : Int) : Bool := decide ((l.length : Int) = count) && l.all fun s => within s 0 (states - 1)

theorem any_not {α : Type} (p : α → Bool) (l : List α) : (!l.any fun x => !p x) = l.all p := by
  induction l with
  | nil => rfl
  | cons a l ih => rw [List.any_cons, List.all_cons, Bool.not_or, Bool.not_not, ih]

set_option maxHeartbeats 400000 in
theorem areStates_any (v : Value) (l : List Int) (c s : Int) (B : Nat) (w : World) (hB0 : B ≤ w.heap.size) (h : intsE.rd w B [v] l) (h0 : 0 ≤ s) (h1 : s ≤ 9223372036854775807) :
    Calls Tryz.prog 95 #[v, .int .i64 c, .int .i64 s] w (Gives (.bool (areStates l c s)) w) := by
  obtain ⟨a, n, cap, rfl⟩ := rd_slice h
  by_cases hc : (l.length : Int) = c
  · have hv : areStates l c s = l.all fun z => within z 0 (s - 1) := by simp [areStates, hc]
    have Hv := Lib.hid hv; clear hv
    have ht : ((l.length : Int) == c) = true := by simpa using hc
    have Hc := Lib.hid hc; clear hc
    have H := Lib.hid h; clear h
    go_enter Tryz.func95, Tryz.ntmps95
    go_wp2_with fail
    generalize hW : w.alloc _ = w1
    obtain ⟨A0, hB⟩ := blk1 hW
    clear hW
    have H1 := Lib.hid (intsE.rd_of (hB.mono hB0) H.out); clear H
    refine (size_ints _ _ _ _ H1.out).mono ?_
    rintro e w2 ⟨rfl, hbl⟩
    have H2 := Lib.hid (intsE.rd_of (hbl.mono (by have := hB.size; omega)) H1.out); clear H1
    have A1 := Lib.hid (A0.of hbl A0.lt)
    go_wp2_with fail
    have B2 := hB.trans (hbl.mono hB.size)
    refine (containsFunc_ints _ l B _ _ _ _ (fun z => !within z 0 (s - 1)) (Nat.le_trans hB0 B2.size) H2.out cf_areStates1 (fun z w3 h3 => ?_)).mono ?_
    · exact areStates1_any z s _ _ w3 ((A1.out.of h3 A1.out.lt).cell 0 rfl) h0 h1
    · rintro e w3 ⟨rfl, h3⟩
      have B3 := B2.trans (h3.mono B2.size)
      clear B2 h3 hbl hB A0
      have hx := Lib.hid (any_not (fun z => within z 0 (s - 1)) l)
      generalize (l.any fun z => !within z 0 (s - 1)) = bv at *
      go_wp2
      go_ret
      exact ⟨by rw [Hv.out, ← hx.out]; rfl, B3⟩
  · have hv : areStates l c s = false := by simp [areStates, hc]
    have Hv := Lib.hid hv; clear hv
    have ht : ((l.length : Int) == c) = false := by simpa using hc
    have Hc := Lib.hid hc; clear hc
    have H := Lib.hid h; clear h
    go_enter Tryz.func95, Tryz.ntmps95
    go_wp2_with fail
    generalize hW : w.alloc _ = w1
    obtain ⟨A0, hB⟩ := blk1 hW
    clear hW
    have H1 := Lib.hid (intsE.rd_of (hB.mono hB0) H.out); clear H
    refine (size_ints _ _ _ _ H1.out).mono ?_
    rintro e w2 ⟨rfl, hbl⟩
    have B2 := hB.trans (hbl.mono hB.size)
    clear hbl hB A0
    go_wp2
    go_ret
    exact ⟨by rw [Hv.out]; rfl, B2⟩

end Go.Proofs.YtcifdkliiljmkaaGreatDoor

/-
  The length, asked by the program's own generic size (written by a program of this claim's own, gen_size.py).
-/
namespace Go.Proofs.YtcifdkliiljmkaaGreatDoor
open Go.RowKit

theorem size_bools (v : Value) (l : List (Bool)) (B : Nat) (w : World) (h : boolsE.rd w B [v] l) : Calls Tryz.prog 90 #[v] w (Gives (.int .i64 l.length) w) := by
  have hl := len_le h
  obtain ⟨a, cap, he, h1, h2, -⟩ := h
  obtain rfl : v = .slice a l.length cap := by simpa using he
  clear he h1 h2
  go_enter Tryz.func90, Tryz.ntmps90
  go_wp2
  go_ret
  exact ⟨rfl, Below.refl _ _⟩

theorem size_moves (v : Value) (l : List (Move)) (B : Nat) (w : World) (h : movesE.rd w B [v] l) : Calls Tryz.prog 98 #[v] w (Gives (.int .i64 l.length) w) := by
  have hl := len_le h
  obtain ⟨a, cap, he, h1, h2, -⟩ := h
  obtain rfl : v = .slice a l.length cap := by simpa using he
  clear he h1 h2
  go_enter Tryz.func98, Tryz.ntmps98
  go_wp2
  go_ret
  exact ⟨rfl, Below.refl _ _⟩

theorem size_movess (v : Value) (l : List (List Move)) (B : Nat) (w : World) (h : movessE.rd w B [v] l) : Calls Tryz.prog 97 #[v] w (Gives (.int .i64 l.length) w) := by
  have hl := len_le h
  obtain ⟨a, cap, he, h1, h2, -⟩ := h
  obtain rfl : v = .slice a l.length cap := by simpa using he
  clear he h1 h2
  go_enter Tryz.func97, Tryz.ntmps97
  go_wp2
  go_ret
  exact ⟨rfl, Below.refl _ _⟩

end Go.Proofs.YtcifdkliiljmkaaGreatDoor

/-
  Contracts of the laws' own helpers at one slice type (written by a program of this claim's own, gen_leaf.py).
-/
namespace Go.Proofs.YtcifdkliiljmkaaGreatDoor
open Go.RowKit

/-- The cells of one. -/
def cMove (x : Move) : List Value := [.int .i64 x.to, .int .i64 x.dir]

def bdMove (x : Move) : Prop := (-9223372036854775808 ≤ x.to ∧ x.to ≤ 9223372036854775807) ∧ (-9223372036854775808 ≤ x.dir ∧ x.dir ≤ 9223372036854775807)

theorem rd_moveE {w : World} {B : Nat} {cs : List Value} {x : Move} (h : moveE.rd w B cs x) : cs = cMove x ∧ bdMove x := by
  obtain ⟨c0, c1, rfl, ⟨rfl, b0⟩, ⟨rfl, b1⟩⟩ := h
  exact ⟨rfl, b0, b1⟩

theorem ow_moveE {w : World} {x : Move} (h : bdMove x) : moveE.ow w (cMove x) x [] := by
  obtain ⟨b0, b1⟩ := h
  exact ⟨_, _, [], [], rfl, rfl, ⟨⟨rfl, b0⟩, rfl⟩, ⟨⟨rfl, b1⟩, rfl⟩⟩

theorem ow_moveE_inv {w : World} {cs : List Value} {x : Move} {f : List Nat} (h : moveE.ow w cs x f) : cs = cMove x ∧ f = [] ∧ bdMove x := by
  have := rd_moveE (moveE.ow_rd (B := w.heap.size) (moveE.ow_lt h) h)
  obtain ⟨_, _, _, _, rfl, rfl, ⟨⟨_, _⟩, rfl⟩, ⟨⟨_, _⟩, rfl⟩⟩ := h
  exact ⟨this.1, rfl, this.2⟩

theorem rd_movesE {ty : TypeId} {w : World} {B : Nat} {v : Value} {l : List Move} (h : (sliceE moveE ty).rd w B [v] l) :
    ∃ a cap, v = .slice a l.length cap ∧ l.length ≤ cap ∧ cap ≤ 9223372036854775807 ∧ (a = none → cap = 0) ∧
      ∀ k, k < l.length → ∃ b o, a = some ⟨b, o, none⟩ ∧ b < B ∧ (w.cell? ⟨b, o + k * 2, none⟩ = some (.int .i64 (l[k]?.getD default).to) ∧ w.cell? ⟨b, o + k * 2 + 1, none⟩ = some (.int .i64 (l[k]?.getD default).dir)) ∧ bdMove (l[k]?.getD default) := by
  obtain ⟨a, cap, hv, h1, h2, h3, h4⟩ := h
  obtain rfl : v = .slice a l.length cap := by simpa using hv
  refine ⟨a, cap, rfl, h1, by simpa [maxLen] using h2, h3, fun k hk => ?_⟩
  obtain ⟨b, o, xs, e1, e2, e3, e4⟩ := h4 k _ (get_some default hk)
  obtain ⟨rfl, e5⟩ := rd_moveE e3
  have hs : moveE.size = 2 := rfl
  rw [hs] at e4
  exact ⟨b, o, e1, e2, ⟨by have := e4 0 _ rfl; simpa [Nat.add_assoc] using this, by have := e4 1 _ rfl; simpa [Nat.add_assoc] using this⟩, e5⟩

set_option maxHeartbeats 400000 in
theorem toMove_any (x : Move) (w : World) : Calls Tryz.prog 111 #[.agg #[.int .i64 x.to, .int .i64 x.dir]] w (Gives (.agg #[.int .i64 x.to, .int .i64 x.dir]) w) := by
  obtain ⟨x0, x1⟩ := x
  dsimp only
  go_enter Tryz.func111, Tryz.ntmps111
  go_wp2
  refine bodyPost_ret (v := .agg #[.int .i64 x0, .int .i64 x1]) (by simp [results, Tryz.results111, go_sem]) rfl ⟨rfl, ?_⟩
  exact (((Below.refl _ _).alloc (Nat.le_refl _) _).alloc (by simp) _).alloc (by simp only [World.size_alloc]; omega) _

set_option maxHeartbeats 400000 in
theorem eqMove_0 (x0 x1 y0 y1 : Int) (w : World) (e0 : ¬ x0 = y0) : Calls Tryz.prog 100 #[.agg #[.int .i64 x0, .int .i64 x1], .agg #[.int .i64 y0, .int .i64 y1]] w (Gives (.bool false) w) := by
  have t0 : (x0 != y0) = true := by simp [e0]
  clear e0
  go_enter Tryz.func100, Tryz.ntmps100
  go_wp2
  go_ret
  exact ⟨rfl, ((Below.refl _ _).alloc (Nat.le_refl _) _).alloc (by simp) _⟩

set_option maxHeartbeats 400000 in
theorem eqMove_1 (x0 x1 y0 y1 : Int) (w : World) (e0 : x0 = y0) (e1 : ¬ x1 = y1) : Calls Tryz.prog 100 #[.agg #[.int .i64 x0, .int .i64 x1], .agg #[.int .i64 y0, .int .i64 y1]] w (Gives (.bool false) w) := by
  have t0 : (x0 != y0) = false := by simp [e0]
  clear e0
  have t1 : (x1 != y1) = true := by simp [e1]
  clear e1
  go_enter Tryz.func100, Tryz.ntmps100
  go_wp2
  go_ret
  exact ⟨rfl, ((Below.refl _ _).alloc (Nat.le_refl _) _).alloc (by simp) _⟩

set_option maxHeartbeats 400000 in
theorem eqMove_2 (x0 x1 y0 y1 : Int) (w : World) (e0 : x0 = y0) (e1 : x1 = y1) : Calls Tryz.prog 100 #[.agg #[.int .i64 x0, .int .i64 x1], .agg #[.int .i64 y0, .int .i64 y1]] w (Gives (.bool true) w) := by
  have t0 : (x0 != y0) = false := by simp [e0]
  clear e0
  have t1 : (x1 != y1) = false := by simp [e1]
  clear e1
  go_enter Tryz.func100, Tryz.ntmps100
  go_wp2
  go_ret
  exact ⟨rfl, ((Below.refl _ _).alloc (Nat.le_refl _) _).alloc (by simp) _⟩

theorem eqMove_any (x y : Move) (w : World) : Calls Tryz.prog 100 #[.agg #[.int .i64 x.to, .int .i64 x.dir], .agg #[.int .i64 y.to, .int .i64 y.dir]] w (Gives (.bool (decide (x = y))) w) := by
  obtain ⟨x0, x1⟩ := x
  obtain ⟨y0, y1⟩ := y
  dsimp only
  by_cases e0 : x0 = y0
  case neg => rw [decide_eq_false (fun e => e0 (by injection e))]; exact eqMove_0 _ _ _ _ w e0
  by_cases e1 : x1 = y1
  case neg => rw [decide_eq_false (fun e => e1 (by injection e))]; exact eqMove_1 _ _ _ _ w e0 e1
  rw [decide_eq_true (by rw [e0, e1])]; exact eqMove_2 _ _ _ _ w e0 e1

theorem eqMove_is (r : Bool) (x y : Move) (w : World) (h : decide (x = y) = r) : Calls Tryz.prog 100 #[.agg #[.int .i64 x.to, .int .i64 x.dir], .agg #[.int .i64 y.to, .int .i64 y.dir]] w (Gives (.bool r) w) := h ▸ eqMove_any x y w

theorem info_MoveS : (Tryz.prog.info? 93).map (fun i => (i.zero, i.size, i.bytes)) = some (some (.agg #[.int .i64 0, .int .i64 0]), 2, 16) := by kernel_rfl

set_option maxHeartbeats 1000000 in
theorem toMoveS_any (v : Value) (l : List Move) (B : Nat) (w : World) (hB0 : B ≤ w.heap.size) (h : movesE.rd w B [v] l) (hl : l.length ≤ 1048576) :
    Calls Tryz.prog 89 #[v] w (Makes movesE id l w) := by
  obtain ⟨a, cap, rfl, h1, h2, h3, h4⟩ := rd_movesE h
  obtain ⟨i0, hi, hz0, hz1, hz2⟩ := info_parts info_MoveS
  obtain ⟨n, hn⟩ : ∃ n, n = l.length := ⟨_, rfl⟩
  rw [← hn] at hl h4 h1 ⊢
  have hmk := make_runs (P := Tryz.prog) Tryz.underlying91 hi hz0 hz1 n (by rw [hz2]; omega) (by omega)
  have hmo := made_owns2 (w := w) (ty := 93) #[.int .i64 0, .int .i64 0] (.int .i64 0) 2 rfl (by intro i hi; match i, hi with | 0, _ => rfl | 1, _ => rfl) (by decide) n (by simp [maxLen]; omega)
  have Hn := Lib.hid hn; clear hn h
  have H4 := Lib.hid h4; clear h4
  have Hmo := Lib.hid hmo; clear hmo
  clear hi hz0 hz1 hz2
  go_enter Tryz.func89, Tryz.ntmps89
  go_wp2
  simp only [Value.cells] at *
  have hb0 : Below w.heap.size w (w.alloc (Obj.cells (madeCells #[Value.int IntKind.i64 0, Value.int IntKind.i64 0] (n * 2)) 93)) := (Below.refl _ _).alloc (Nat.le_refl _) _
  have HB0 := Lib.hid hb0; clear hb0
  generalize w.alloc (Obj.cells (madeCells #[Value.int IntKind.i64 0, Value.int IntKind.i64 0] (n * 2)) 93) = w1 at *
  obtain ⟨g, hg⟩ : ∃ g, g = w.heap.size := ⟨_, rfl⟩
  rw [← hg] at Hmo HB0 ⊢
  have Hg := Lib.hid hg; clear hg hmk
  go_loopw [4] (fun i wr => ∃ k : Nat, k ≤ n ∧ i = .int .i64 k ∧ Below g w wr ∧ wr.ownsRow g 93 2 (.slice (some ⟨g, 0, none⟩) n n) n ((l.take k).flatMap cMove ++ List.replicate ((n - k) * 2) (.int .i64 0))) (fun i _ => n - (intOf i).toNat)
  case atStart => exact ⟨0, by omega, rfl, HB0.out, by simpa using Hmo.out⟩
  case round =>
    obtain ⟨k, hk, rfl, hB, hO⟩ := hrel
    by_cases hlt : k < n
    · obtain ⟨b, o, rfl, hb, ⟨hc0, hc1⟩, hbd⟩ := H4.out k hlt
      have hlen : ((l.take k).flatMap cMove).length = k * 2 := by rw [flatMap_len cMove 2 (fun _ => rfl)]; have := Hn.out; simp; omega
      have HX := Lib.hid (flatMap_take default cMove l k (by rw [← Hn.out]; exact hlt))
      generalize l[k]?.getD default = x at *
      have c10 := (hB.cell (by rw [Hg.out]; exact World.block_lt_of_cell? w _ hc0)).trans hc0
      have c11 := (hB.cell (by rw [Hg.out]; exact World.block_lt_of_cell? w _ hc1)).trans hc1
      have HO := Lib.hid hO
      have HLen := Lib.hid hlen
      clear hc0 hc1 hbd hO hlen
      go_wp2_with fail
      refine (toMove_any x _).mono ?_
      rintro e w2 ⟨rfl, hbl⟩
      have hO := ownsRow_below HO.out hbl
      have B2 := hB.trans (hbl.mono (by have := hB.size; rw [Hg.out]; omega))
      have hlen := HLen.out
      have z0 : w2.cell? ⟨g, k * 2, none⟩ = some (.int .i64 0) := by
        rw [hO.cellAt (k * 2) (by omega)]; have := tail_get ((l.take k).flatMap cMove) ((n - k) * 2) 0 (.int .i64 0) (by omega); rwa [hlen] at this
      have z1 : w2.cell? ⟨g, k * 2 + 1, none⟩ = some (.int .i64 0) := by
        rw [hO.cellAt (k * 2 + 1) (by omega)]; have := tail_get ((l.take k).flatMap cMove) ((n - k) * 2) 1 (.int .i64 0) (by omega); rwa [hlen] at this
      have f0 := hO.frozenAt (k * 2)
      have f1 := hO.frozenAt (k * 2 + 1)
      have HS := Lib.hid (((hO.stored (k * 2) (.int .i64 x.to)).1.stored (k * 2 + 1) (.int .i64 x.dir)).1)
      clear hO hbl hB hlen c10 c11
      go_wp2
      go_roundw
      case rel =>
        refine ⟨k + 1, by omega, by go_num, (B2.setCell (Nat.le_refl _) _).setCell (Nat.le_refl _) _, ?_⟩
        have hs := HS.out
        rw [show (n - k) * 2 = (n - (k + 1)) * 2 + 2 from by omega, ← HLen.out] at hs
        have hf := fill2 ((l.take k).flatMap cMove) ((n - (k + 1)) * 2) (.int .i64 0) (.int .i64 x.to) (.int .i64 x.dir)
        rw [hf] at hs
        rw [HX.out, HLen.out] at *
        exact hs
      case measure => simp [intOf]; omega
    · obtain rfl : k = n := by omega
      go_wp2
      go_ret
      rw [show l.take k = l from by rw [Hn.out, List.take_length], Nat.sub_self, Nat.zero_mul, List.replicate_zero, List.append_nil] at hO
      refine makes_flats (g := g) cMove (fun x hx => ?_) (by rw [← Hn.out]; exact hO) hB Hg.out
      obtain ⟨i, hi, rfl⟩ := List.getElem_of_mem hx
      obtain ⟨b, o, _, _, _, h5⟩ := H4.out i (by rw [Hn.out]; exact hi)
      simp only [List.getElem?_eq_getElem hi, Option.getD_some] at h5
      exact ow_moveE h5

set_option maxHeartbeats 1000000 in
theorem eqMoveS_any (va vb : Value) (la lb : List Move) (B B' : Nat) (w : World) (ha : movesE.rd w B [va] la) (hb : movesE.rd w B' [vb] lb) :
    Calls Tryz.prog 72 #[va, vb] w (Gives (.bool (decide (la = lb))) w) := by
  obtain ⟨a, ca, rfl, a1, a2, -, a4⟩ := rd_movesE ha
  obtain ⟨b, cb, rfl, b1, b2, -, b4⟩ := rd_movesE hb
  clear ha hb
  have H4 := Lib.hid a4; clear a4
  have K4 := Lib.hid b4; clear b4
  by_cases hlen : la.length = lb.length
  · obtain ⟨n, hn⟩ : ∃ n, n = la.length := ⟨_, rfl⟩
    rw [← hn] at hlen H4 a1 ⊢
    rw [← hlen] at K4 b1 ⊢
    have Hn := Lib.hid hn; clear hn
    have Hl := Lib.hid hlen; clear hlen
    go_enter Tryz.func72, Tryz.ntmps72
    go_wp2
    go_loopw [5] (fun i wr => ∃ k : Nat, k ≤ n ∧ i = .int .i64 k ∧ Below w.heap.size w wr ∧ Hid (∀ i, i < k → la[i]?.getD default = lb[i]?.getD default)) (fun i _ => n - (intOf i).toNat)
    case atStart => exact ⟨0, by omega, rfl, Below.refl _ _, Lib.hid (fun i hi => absurd hi (by omega))⟩
    case round =>
      obtain ⟨k, hk, rfl, hB, HE⟩ := hrel
      by_cases hlt : k < n
      · obtain ⟨p, o, rfl, -, ⟨hp0, hp1⟩, -⟩ := H4.out k hlt
        obtain ⟨p', o', rfl, -, ⟨hq0, hq1⟩, -⟩ := K4.out k hlt
        have p0 := (hB.cell (World.block_lt_of_cell? w _ hp0)).trans hp0
        have p1 := (hB.cell (World.block_lt_of_cell? w _ hp1)).trans hp1
        have q0 := (hB.cell (World.block_lt_of_cell? w _ hq0)).trans hq0
        have q1 := (hB.cell (World.block_lt_of_cell? w _ hq1)).trans hq1
        have g1 : p < wr.heap.size := World.block_lt_of_cell? wr _ p0
        have g2 : p' < wr.heap.size := World.block_lt_of_cell? wr _ q0
        have hov := cell_over wr
        clear hp0 hp1 hq0 hq1
        generalize hx : la[k]?.getD default = x at *
        generalize hy : lb[k]?.getD default = y at *
        have HX := Lib.hid hx; have HY := Lib.hid hy; clear hx hy
        by_cases he : x = y
        · have He := Lib.hid he; clear he
          go_wp2
          refine wp_region_over (by kernel_rfl) (by kernel_rfl) ?_
          repeat (go_big_quiet_step ((go_at_call 100; exact calls_over (eqMove_is true x y _ (decide_eq_true He.out)))))
          refine wpQuiet_nil ?_
          intro w1 hw1
          go_wp2
          go_roundw
          case rel => exact ⟨k + 1, by omega, by go_num, hB.trans (hw1.mono hB.size), Lib.hid (fun i hi => by by_cases h : i = k; (subst h; rw [HX.out, HY.out]; exact He.out); exact HE.out i (by omega))⟩
          case measure => simp [intOf]; omega
        · have He := Lib.hid he; clear he
          go_wp2
          refine wp_region_over (by kernel_rfl) (by kernel_rfl) ?_
          repeat (go_big_quiet_step ((go_at_call 100; exact calls_over (eqMove_is false x y _ (decide_eq_false He.out)))))
          refine wpQuiet_nil ?_
          intro w1 hw1
          go_wp2
          go_ret
          have : la ≠ lb := fun e => He.out (by rw [← HX.out, ← HY.out, e])
          exact ⟨by simp [this], hB.trans (hw1.mono hB.size)⟩
      · obtain rfl : k = n := by omega
        go_wp2
        go_ret
        have : la = lb := ext_getD default (by rw [← Hn.out, Hl.out]) (fun i hi => HE.out i (by rw [Hn.out]; exact hi))
        exact ⟨by simp [this], hB⟩
  · have hb := bne_len hlen
    have : la ≠ lb := fun e => hlen (by rw [e])
    have Ht := Lib.hid this; clear this
    go_enter Tryz.func72, Tryz.ntmps72
    go_wp2
    go_ret
    exact ⟨by simp [Ht.out], Below.refl _ _⟩

theorem eqMoveS_is (r : Bool) (va vb : Value) (la lb : List Move) (B B' : Nat) (w : World) (hr : decide (la = lb) = r) (ha : movesE.rd w B [va] la) (hb : movesE.rd w B' [vb] lb) :
    Calls Tryz.prog 72 #[va, vb] w (Gives (.bool r) w) := hr ▸ eqMoveS_any va vb la lb B B' w ha hb

set_option maxHeartbeats 400000 in
theorem szMoveS_any (v : Value) (l : List Move) (B : Nat) (w : World) (left : Int) (h : movesE.rd w B [v] l) (h0 : 0 ≤ left) (h1 : left ≤ 1048576) :
    Calls Tryz.prog 86 #[v, .int .i64 left] w (Gives (.int .i64 (lim l.length left)) w) := by
  have a1 := len_le h
  obtain ⟨a, n, cap, rfl⟩ := rd_slice h
  obtain ⟨n', cap', hv, -⟩ := h
  obtain rfl : n = l.length := by simp at hv; exact hv.2.1
  clear hv
  by_cases hlt : left < l.length
  · have hr := Lib.hid (lim_of_lt hlt)
    have ht : left - (l.length : Int) < 0 := by omega
    go_enter Tryz.func86, Tryz.ntmps86
    go_wp2
    go_ret
    exact ⟨by rw [hr.out]; rfl, Below.refl _ _⟩
  · have hr := Lib.hid (lim_of_ge hlt)
    have ht : ¬ left - (l.length : Int) < 0 := by omega
    go_enter Tryz.func86, Tryz.ntmps86
    go_wp2
    go_ret
    exact ⟨by rw [hr.out]; rfl, Below.refl _ _⟩

end Go.Proofs.YtcifdkliiljmkaaGreatDoor

/-
  ValidTurner of the program: what it answers.
-/
namespace Go.Proofs.YtcifdkliiljmkaaGreatDoor
open Go.RowKit

/-- A row of a turner's table is right: its length, and each of its moves. -/
def mrowOk (row : List Move) (n letters : Int) : Bool :=
  decide ((row.length : Int) = letters + 2) && (List.range row.length).all fun k => moveOk (row[k]?.getD default) n letters (k : Int)

def validTurn (p : Turner) : Bool :=
  within p.letters 1 3 && (within p.moves.length 1 12 && (within p.start 0 (p.moves.length - 1) && p.moves.all fun row => mrowOk row p.moves.length p.letters))

section
variable (cs : List Value) (p : Turner) (B : Nat) (w : World) (hB0 : B ≤ w.heap.size) (h : turnE.rd w B cs p)
include hB0 h

set_option maxHeartbeats 1000000 in
theorem validTurn_no1 (h1 : within p.letters 1 3 = false) : Calls Tryz.prog 71 #[.agg cs.toArray] w (Gives (.bool false) w) := by
  obtain ⟨v2, rfl, -, -, hh2⟩ := rd_Turner h
  obtain ⟨a, cap, rfl, a1, a2, -, a4⟩ := rd_slice1 rfl hh2
  obtain ⟨n, hn⟩ : ∃ n, n = p.moves.length := ⟨_, rfl⟩
  have HN : Hid (n = p.moves.length) := Lib.hid hn
  rw [← hn] at a1 a4 hh2 ⊢
  have H2 := Lib.hid hh2
  have T1 := Lib.hid h1
  clear h hh2 hn a4 h1
  go_enter Tryz.func71, Tryz.ntmps71
  go_wp2_with fail
  generalize hW : w.alloc _ = w0
  obtain ⟨A0, hB⟩ := blk1 hW
  clear hW
  refine (size_movess _ p.moves B _ (movessE.rd_of (hB.mono hB0) H2.out)).mono ?_
  rintro e w1 ⟨rfl, b⟩
  rw [← HN.out]
  have A0 := A0.of b A0.lt
  have c0 := A0.cell 0 rfl
  have c1 := A0.cell 1 rfl
  have c2 := A0.cell 2 rfl
  have HB := Lib.hid (hB.trans (b.mono hB.size))
  have HA := Lib.hid A0
  clear A0 hB b
  go_wp2_with fail
  refine (isAlphabet_is false _ _ T1.out).mono ?_
  rintro e w2 ⟨rfl, b⟩
  have HB := Lib.hid (HB.out.trans (b.mono HB.out.size))
  have HA := Lib.hid (HA.out.of b HA.out.lt)
  have c0 := HA.out.cell 0 rfl
  have c1 := HA.out.cell 1 rfl
  have c2 := HA.out.cell 2 rfl
  clear b
  go_wp2
  go_ret
  exact ⟨rfl, HB.out⟩

set_option maxHeartbeats 1000000 in
theorem validTurn_no2 (h1 : within p.letters 1 3 = true) (h2 : within p.moves.length 1 12 = false) : Calls Tryz.prog 71 #[.agg cs.toArray] w (Gives (.bool false) w) := by
  obtain ⟨v2, rfl, -, -, hh2⟩ := rd_Turner h
  obtain ⟨a, cap, rfl, a1, a2, -, a4⟩ := rd_slice1 rfl hh2
  obtain ⟨n, hn⟩ : ∃ n, n = p.moves.length := ⟨_, rfl⟩
  have HN : Hid (n = p.moves.length) := Lib.hid hn
  rw [← hn] at a1 a4 h2 hh2 ⊢
  have H2 := Lib.hid hh2
  have T1 := Lib.hid h1
  have T2 := Lib.hid h2
  clear h hh2 hn a4 h1 h2
  go_enter Tryz.func71, Tryz.ntmps71
  go_wp2_with fail
  generalize hW : w.alloc _ = w0
  obtain ⟨A0, hB⟩ := blk1 hW
  clear hW
  refine (size_movess _ p.moves B _ (movessE.rd_of (hB.mono hB0) H2.out)).mono ?_
  rintro e w1 ⟨rfl, b⟩
  rw [← HN.out]
  have A0 := A0.of b A0.lt
  have c0 := A0.cell 0 rfl
  have c1 := A0.cell 1 rfl
  have c2 := A0.cell 2 rfl
  have HB := Lib.hid (hB.trans (b.mono hB.size))
  have HA := Lib.hid A0
  clear A0 hB b
  go_wp2_with fail
  refine (isAlphabet_is true _ _ T1.out).mono ?_
  rintro e w2 ⟨rfl, b⟩
  have HB := Lib.hid (HB.out.trans (b.mono HB.out.size))
  have HA := Lib.hid (HA.out.of b HA.out.lt)
  have c0 := HA.out.cell 0 rfl
  have c1 := HA.out.cell 1 rfl
  have c2 := HA.out.cell 2 rfl
  clear b
  go_wp2_with fail
  refine (within_kis false _ _ _ _ T2.out).mono ?_
  rintro e w3 ⟨rfl, rfl⟩
  go_wp2
  go_ret
  exact ⟨rfl, HB.out⟩

set_option maxHeartbeats 1000000 in
theorem validTurn_no3 (h1 : within p.letters 1 3 = true) (h2 : within p.moves.length 1 12 = true) (h3 : within p.start 0 (p.moves.length - 1) = false) : Calls Tryz.prog 71 #[.agg cs.toArray] w (Gives (.bool false) w) := by
  obtain ⟨v2, rfl, -, -, hh2⟩ := rd_Turner h
  obtain ⟨a, cap, rfl, a1, a2, -, a4⟩ := rd_slice1 rfl hh2
  obtain ⟨n, hn⟩ : ∃ n, n = p.moves.length := ⟨_, rfl⟩
  have HN : Hid (n = p.moves.length) := Lib.hid hn
  rw [← hn] at a1 a4 h2 h3 hh2 ⊢
  have H2 := Lib.hid hh2
  have T1 := Lib.hid h1
  have T2 := Lib.hid h2
  have hn1 := (within_true.1 h2)
  have T3 := Lib.hid h3
  have hw : IntKind.i64.wrap ((n : Int) - 1) = (n : Int) - 1 := IntWalk.i64_in _ ⟨by omega, by omega⟩
  clear hn1
  clear h hh2 hn a4 h1 h2 h3
  go_enter Tryz.func71, Tryz.ntmps71
  go_wp2_with fail
  generalize hW : w.alloc _ = w0
  obtain ⟨A0, hB⟩ := blk1 hW
  clear hW
  refine (size_movess _ p.moves B _ (movessE.rd_of (hB.mono hB0) H2.out)).mono ?_
  rintro e w1 ⟨rfl, b⟩
  rw [← HN.out]
  have A0 := A0.of b A0.lt
  have c0 := A0.cell 0 rfl
  have c1 := A0.cell 1 rfl
  have c2 := A0.cell 2 rfl
  have HB := Lib.hid (hB.trans (b.mono hB.size))
  have HA := Lib.hid A0
  clear A0 hB b
  go_wp2_with fail
  refine (isAlphabet_is true _ _ T1.out).mono ?_
  rintro e w2 ⟨rfl, b⟩
  have HB := Lib.hid (HB.out.trans (b.mono HB.out.size))
  have HA := Lib.hid (HA.out.of b HA.out.lt)
  have c0 := HA.out.cell 0 rfl
  have c1 := HA.out.cell 1 rfl
  have c2 := HA.out.cell 2 rfl
  clear b
  go_wp2_with fail
  refine (within_kis true _ _ _ _ T2.out).mono ?_
  rintro e w3 ⟨rfl, rfl⟩
  go_wp2_with fail
  refine (within_kis false _ _ _ _ T3.out).mono ?_
  rintro e w4 ⟨rfl, rfl⟩
  go_wp2
  go_ret
  exact ⟨rfl, HB.out⟩

set_option maxHeartbeats 1000000 in
theorem validTurn_yes (h1 : within p.letters 1 3 = true) (h2 : within p.moves.length 1 12 = true) (h3 : within p.start 0 (p.moves.length - 1) = true) : Calls Tryz.prog 71 #[.agg cs.toArray] w (Gives (.bool (p.moves.all fun row => mrowOk row p.moves.length p.letters)) w) := by
  obtain ⟨v2, rfl, -, -, hh2⟩ := rd_Turner h
  obtain ⟨a, cap, rfl, a1, a2, -, a4⟩ := rd_slice1 rfl hh2
  obtain ⟨n, hn⟩ : ∃ n, n = p.moves.length := ⟨_, rfl⟩
  have HN : Hid (n = p.moves.length) := Lib.hid hn
  rw [← hn] at a1 a4 h2 h3 hh2 ⊢
  have H2 := Lib.hid hh2
  have T1 := Lib.hid h1
  have T2 := Lib.hid h2
  have hn1 := (within_true.1 h2)
  have T3 := Lib.hid h3
  have hw : IntKind.i64.wrap ((n : Int) - 1) = (n : Int) - 1 := IntWalk.i64_in _ ⟨by omega, by omega⟩
  have hl1 := within_true.1 h1
  have A4 := Lib.hid a4
  clear h hh2 hn a4 h1 h2 h3
  go_enter Tryz.func71, Tryz.ntmps71
  go_wp2_with fail
  generalize hW : w.alloc _ = w0
  obtain ⟨A0, hB⟩ := blk1 hW
  clear hW
  refine (size_movess _ p.moves B _ (movessE.rd_of (hB.mono hB0) H2.out)).mono ?_
  rintro e w1 ⟨rfl, b⟩
  rw [← HN.out]
  have A0 := A0.of b A0.lt
  have c0 := A0.cell 0 rfl
  have c1 := A0.cell 1 rfl
  have c2 := A0.cell 2 rfl
  have HB := Lib.hid (hB.trans (b.mono hB.size))
  have HA := Lib.hid A0
  clear A0 hB b
  go_wp2_with fail
  refine (isAlphabet_is true _ _ T1.out).mono ?_
  rintro e w2 ⟨rfl, b⟩
  have HB := Lib.hid (HB.out.trans (b.mono HB.out.size))
  have HA := Lib.hid (HA.out.of b HA.out.lt)
  have c0 := HA.out.cell 0 rfl
  have c1 := HA.out.cell 1 rfl
  have c2 := HA.out.cell 2 rfl
  clear b
  go_wp2_with fail
  refine (within_kis true _ _ _ _ T2.out).mono ?_
  rintro e w3 ⟨rfl, rfl⟩
  go_wp2_with fail
  refine (within_kis true _ _ _ _ T3.out).mono ?_
  rintro e w4 ⟨rfl, rfl⟩
  go_wp2
  clear c0 c1
  go_loopw [31] (fun i wr => ∃ k : Nat, k ≤ n ∧ i = .int .i64 k ∧ Below w.heap.size w wr ∧ Blk wr w.heap.size [.int .i64 p.letters, .int .i64 p.start, .slice a n cap] 36 ∧ Hid (∀ i, i < k → mrowOk (p.moves[i]?.getD default) n p.letters = true)) (fun i _ => n - (intOf i).toNat)
  case atStart => exact ⟨0, by omega, rfl, HB.out, HA.out, Lib.hid (fun i hi => absurd hi (by omega))⟩
  case round =>
    obtain ⟨k, hk, rfl, hB, hA, HE⟩ := hrel
    by_cases hlt : k < n
    case neg =>
      obtain rfl : k = n := by omega
      go_wp2
      go_ret
      have : (p.moves.all fun row => mrowOk row (k : Int) p.letters) = true := all_of_idx default _ _ (fun i hi => HE.out i (by rw [HN.out]; exact hi))
      exact ⟨by rw [this]; rfl, hB⟩
    obtain ⟨b, o, vk, rfl, -, hc, hr⟩ := A4.out k hlt
    have g1 := (hB.cell (World.block_lt_of_cell? w _ hc)).trans hc
    have R := Lib.hid (movesE.rd_of (hB.mono hB0) hr)
    have R0 := Lib.hid hr; clear hr hc
    obtain ⟨row, hrow⟩ : ∃ x, x = p.moves[k]?.getD default := ⟨_, rfl⟩
    rw [← hrow] at R R0
    have HROW := Lib.hid hrow; clear hrow
    obtain ⟨ra, rcap, rfl, r1, r2, -, r4⟩ := rd_movesE R0.out
    clear R0
    have R4 := Lib.hid r4; clear r4
    have c0 := hA.cell 0 rfl
    have hA' := Lib.hid hA; have la := hA.lt; clear hA
    have HBr := Lib.hid hB; clear hB
    have hwl1 : IntKind.i64.wrap (p.letters + 2) = p.letters + 2 := IntWalk.i64_in _ ⟨by omega, by omega⟩
    have hov := cell_over wr
    by_cases hlen : (row.length : Int) = p.letters + 2
    case neg =>
      have hb : ((row.length : Int) != p.letters + 2) = true := by simpa using hlen
      have hno := Lib.hid (show mrowOk row n p.letters = false by unfold mrowOk; rw [decide_eq_false hlen]; rfl)
      clear hlen
      go_wp2
      refine wp_region_over (by kernel_rfl) (by kernel_rfl) ?_
      repeat (go_big_quiet_step ((go_at_call 98; exact calls_over (size_moves _ row _ _ (movesE.rd_of ((below_over wr _).mono (Nat.le_trans hB0 HBr.out.size)) R.out)))))
      refine wpQuiet_nil ?_
      intro w5 hw5
      go_wp2
      go_ret
      have : (p.moves.all fun row => mrowOk row (n : Int) p.letters) = false := all_not_idx default _ _ k (by rw [← HN.out]; exact hlt) (by rw [← HROW.out]; exact hno.out)
      exact ⟨by rw [this]; rfl, HBr.out.trans (hw5.mono HBr.out.size)⟩
    have hb : ((row.length : Int) != p.letters + 2) = false := by simpa using hlen
    have Hlen := Lib.hid hlen; clear hlen
    go_wp2
    refine wp_region_over (by kernel_rfl) (by kernel_rfl) ?_
    repeat (go_big_quiet_step ((go_at_call 98; exact calls_over (size_moves _ row _ _ (movesE.rd_of ((below_over wr _).mono (Nat.le_trans hB0 HBr.out.size)) R.out)))))
    refine wpQuiet_nil ?_
    intro w5 hw5
    go_wp2
    have hA5 := Lib.hid (hA'.out.of hw5 la)
    have hB5 := Lib.hid (HBr.out.trans (hw5.mono HBr.out.size))
    clear hw5 hov c0 g1
    have hrl : row.length ≤ 5 := by have := Hlen.out; omega
    have hrl' : 2 ≤ row.length := by have := Hlen.out; omega
    obtain ⟨m, hm⟩ : ∃ m, m = row.length := ⟨_, rfl⟩
    rw [← hm] at hrl hrl' R4 ⊢
    have HM := Lib.hid hm; clear hm
    go_loopw [43] (fun i wr => ∃ c : Nat, c ≤ m ∧ i = .int .i64 c ∧ Below w.heap.size w wr ∧ Blk wr w.heap.size [.int .i64 p.letters, .int .i64 p.start, .slice (some ⟨b, o, none⟩) n cap] 36 ∧ Hid (∀ i, i < c → moveOk (row[i]?.getD default) n p.letters (i : Int) = true)) (fun i _ => m - (intOf i).toNat)
    case atStart => exact ⟨0, by omega, rfl, hB5.out, hA5.out, Lib.hid (fun i hi => absurd hi (by omega))⟩
    case round =>
      obtain ⟨c, hc, rfl, hB, hA, HC⟩ := hrel
      by_cases hcm : c < m
      case neg =>
        obtain rfl : c = m := by omega
        have hyes : Hid (mrowOk row n p.letters = true) := Lib.hid (by unfold mrowOk; rw [decide_eq_true Hlen.out, Bool.true_and]; exact range_all (fun i hi => HC.out i (by rw [HM.out]; exact hi)))
        go_wp2
        go_roundw
        case rel => exact ⟨k + 1, by omega, by go_num, hB, hA, Lib.hid (fun i hi => by by_cases h : i = k; (subst h; rw [← HROW.out]; exact hyes.out); exact HE.out i (by omega))⟩
        case measure => simp [intOf]; omega
      obtain ⟨s, t, rfl, -, ⟨hp0, hp1⟩, -⟩ := R4.out c hcm
      have l0 := World.block_lt_of_cell? w _ hp0
      have p0 := fun o => ((hB.alloc hB.size o).cell l0).trans hp0
      have q0 := (hB.cell l0).trans hp0
      have q1 := (hB.cell (World.block_lt_of_cell? w _ hp1)).trans hp1
      clear hp0 hp1 l0 p0
      have d0 := fun o => (hA.alloc o).cell 0 rfl
      have HA5 := Lib.hid hA; clear hA
      have HB5 := Lib.hid hB; clear hB
      generalize hmv : row[c]?.getD default = mv at *
      have HMV := Lib.hid hmv; clear hmv
      cases hok : moveOk mv n p.letters (c : Int)
      case false =>
        have HOK := Lib.hid hok; clear hok
        go_wp2_with fail
        refine (isMove_is false mv _ _ _ _ ⟨by omega, by omega⟩ ⟨by omega, by omega⟩ HOK.out).mono ?_
        rintro e w6 ⟨rfl, b6⟩
        have b6 := ((Below.refl _ wr).alloc (Nat.le_refl _) _).trans (b6.mono (by simp))
        have HB6 := Lib.hid (HB5.out.trans (b6.mono HB5.out.size))
        clear b6
        have hno : Hid (mrowOk row n p.letters = false) := Lib.hid (by unfold mrowOk; rw [decide_eq_true Hlen.out, Bool.true_and]; exact range_not (by rw [← HM.out]; exact hcm) (by rw [HMV.out]; exact HOK.out))
        go_wp2
        go_ret
        have : (p.moves.all fun row => mrowOk row (n : Int) p.letters) = false := all_not_idx default _ _ k (by rw [← HN.out]; exact hlt) (by rw [← HROW.out]; exact hno.out)
        exact ⟨by rw [this]; rfl, HB6.out⟩
      have HOK := Lib.hid hok; clear hok
      go_wp2_with fail
      refine (isMove_is true mv _ _ _ _ ⟨by omega, by omega⟩ ⟨by omega, by omega⟩ HOK.out).mono ?_
      rintro e w6 ⟨rfl, b6⟩
      have b6 := ((Below.refl _ wr).alloc (Nat.le_refl _) _).trans (b6.mono (by simp))
      have HB6 := Lib.hid (HB5.out.trans (b6.mono HB5.out.size))
      have HA6 := Lib.hid (HA5.out.of b6 HA5.out.lt)
      clear b6
      go_wp2
      go_roundw
      case rel => exact ⟨c + 1, by omega, by go_num, HB6.out, HA6.out, Lib.hid (fun i hi => by by_cases h : i = c; (subst h; rw [HMV.out]; exact HOK.out); exact HC.out i (by omega))⟩
      case measure => simp [intOf]; omega

end

theorem validTurn_any (cs : List Value) (p : Turner) (B : Nat) (w : World) (hB0 : B ≤ w.heap.size) (h : turnE.rd w B cs p) :
    Calls Tryz.prog 71 #[.agg cs.toArray] w (Gives (.bool (validTurn p)) w) := by
  unfold validTurn
  cases h1 : within p.letters 1 3 with
  | false => rw [Bool.false_and]; exact validTurn_no1 cs p B w hB0 h h1
  | true =>
    rw [Bool.true_and]
    cases h2 : within p.moves.length 1 12 with
    | false => rw [Bool.false_and]; exact validTurn_no2 cs p B w hB0 h h1 h2
    | true =>
      rw [Bool.true_and]
      cases h3 : within p.start 0 (p.moves.length - 1) with
      | false => rw [Bool.false_and]; exact validTurn_no3 cs p B w hB0 h h1 h2 h3
      | true => rw [Bool.true_and]; exact validTurn_yes cs p B w hB0 h h1 h2 h3

end Go.Proofs.YtcifdkliiljmkaaGreatDoor

/-
  Contracts of slices.IndexFunc and slices.ContainsFunc at slices of slices (written by a program of this claim's own, gen_funcs.py).
-/
namespace Go.Proofs.YtcifdkliiljmkaaGreatDoor
open Go.RowKit

set_option maxHeartbeats 400000 in
theorem indexFunc_intss (v : Value) (l : List (List Int)) (B : Nat) (w : World) (f : FuncId) (x y : Array Value) (p : List Int → Bool) (hB0 : B ≤ w.heap.size) (h : intssE.rd w B [v] l)
    (hcf : ∀ args w1, (callFunc f args).run Tryz.prog w1 = .ok (.enter f args) w1)
    (hf : ∀ vk z w1, Below w.heap.size w w1 → intsE.rd w1 B [vk] z → Calls Tryz.prog f (x.push vk ++ y) w1 (Gives (.bool (p z)) w1)) :
    Calls Tryz.prog 112 #[v, .func (.func f) x y] w (Gives (.int .i64 (firstIdx p l)) w) := by
  obtain ⟨a, cap, rfl, h1, h2, -, h4⟩ := rd_slice1 rfl h
  obtain ⟨n, hn⟩ : ∃ n, n = l.length := ⟨_, rfl⟩
  rw [← hn] at h4 h1 ⊢
  have Hn := Lib.hid hn; clear hn h
  have H4 := Lib.hid h4; clear h4
  have Hf := Lib.hid hf; clear hf
  go_enter Tryz.func112, Tryz.ntmps112
  go_wp2
  go_loopw [4, 5, 8] (fun _ _ i wr => ∃ k : Nat, k ≤ n ∧ i = .int .i64 k ∧ Below w.heap.size w wr ∧ Hid (∀ i y, i < k → l[i]? = some y → p y = false)) (fun _ _ i _ => n - (intOf i).toNat)
  case atStart => exact ⟨0, by omega, rfl, Below.refl _ _, Lib.hid (fun i y hi => absurd hi (by omega))⟩
  case round =>
    obtain ⟨k, hk, rfl, hB, HE⟩ := hrel
    by_cases hlt : k < n
    · obtain ⟨b, o, vk, rfl, -, hc, hr⟩ := H4.out k hlt
      have c1 := (hB.cell (World.block_lt_of_cell? w _ hc)).trans hc
      have HR := Lib.hid (intsE.rd_of (hB.mono hB0) hr)
      clear hc hr
      have hkl := get_some default (l := l) (k := k) (by rw [← Hn.out]; exact hlt)
      have HK := Lib.hid hkl; clear hkl
      generalize l[k]?.getD default = z at *
      go_wp2_with fail
      refine (Hf.out _ z _ hB HR.out).mono ?_
      rintro e w1 ⟨rfl, hbl⟩
      have B1 := Lib.hid (hB.trans (hbl.mono hB.size)); clear hB hbl
      by_cases hp : p z = true
      · go_wp2
        go_ret
        refine ⟨?_, B1.out⟩
        rw [firstIdx_at p l k _ HK.out hp HE.out]
        rfl
      · rw [Bool.not_eq_true] at hp
        go_wp2
        go_roundw
        case rel =>
          refine ⟨k + 1, by omega, by go_num, B1.out, Lib.hid (fun i y hi hy => ?_)⟩
          by_cases e : i = k
          · subst e
            rw [HK.out] at hy
            cases hy
            exact hp
          · exact HE.out i y (by omega) hy
        case measure => simp [intOf]; omega
    · obtain rfl : k = n := by omega
      go_wp2
      go_ret
      refine ⟨?_, hB⟩
      rw [firstIdx_none p l (fun x hx => ?_)]
      · rfl
      · obtain ⟨i, hi, rfl⟩ := List.getElem_of_mem hx
        exact HE.out i _ (by rw [Hn.out]; exact hi) (List.getElem?_eq_getElem hi)

set_option maxHeartbeats 400000 in
theorem containsFunc_intss (v : Value) (l : List (List Int)) (B : Nat) (w : World) (f : FuncId) (x y : Array Value) (p : List Int → Bool) (hB0 : B ≤ w.heap.size) (h : intssE.rd w B [v] l)
    (hcf : ∀ args w1, (callFunc f args).run Tryz.prog w1 = .ok (.enter f args) w1)
    (hf : ∀ vk z w1, Below w.heap.size w w1 → intsE.rd w1 B [vk] z → Calls Tryz.prog f (x.push vk ++ y) w1 (Gives (.bool (p z)) w1)) :
    Calls Tryz.prog 93 #[v, .func (.func f) x y] w (Gives (.bool (l.any p)) w) := by
  obtain ⟨a, n, cap, rfl⟩ := rd_slice h
  have Hf := Lib.hid hf; clear hf
  have H := Lib.hid h; clear h
  have Hcf := Lib.hid hcf; clear hcf
  go_enter Tryz.func93, Tryz.ntmps93
  go_wp2_with fail
  refine (indexFunc_intss _ l B _ f x y p hB0 H.out Hcf.out Hf.out).mono ?_
  rintro e w1 ⟨rfl, hbl⟩
  have he := Lib.hid (firstIdx_any p l)
  generalize firstIdx p l = j at *
  go_wp2
  go_ret
  exact ⟨by rw [← he.out]; rfl, hbl⟩

set_option maxHeartbeats 400000 in
theorem indexFunc_strs (v : Value) (l : List (ByteArray)) (B : Nat) (w : World) (f : FuncId) (x y : Array Value) (p : ByteArray → Bool) (hB0 : B ≤ w.heap.size) (h : strsE.rd w B [v] l)
    (hcf : ∀ args w1, (callFunc f args).run Tryz.prog w1 = .ok (.enter f args) w1)
    (hf : ∀ vk z w1, Below w.heap.size w w1 → strE.rd w1 B [vk] z → Calls Tryz.prog f (x.push vk ++ y) w1 (Gives (.bool (p z)) w1)) :
    Calls Tryz.prog 79 #[v, .func (.func f) x y] w (Gives (.int .i64 (firstIdx p l)) w) := by
  obtain ⟨a, cap, rfl, h1, h2, -, h4⟩ := rd_slice1 rfl h
  obtain ⟨n, hn⟩ : ∃ n, n = l.length := ⟨_, rfl⟩
  rw [← hn] at h4 h1 ⊢
  have Hn := Lib.hid hn; clear hn h
  have H4 := Lib.hid h4; clear h4
  have Hf := Lib.hid hf; clear hf
  go_enter Tryz.func79, Tryz.ntmps79
  go_wp2
  go_loopw [4, 5, 8] (fun _ _ i wr => ∃ k : Nat, k ≤ n ∧ i = .int .i64 k ∧ Below w.heap.size w wr ∧ Hid (∀ i y, i < k → l[i]? = some y → p y = false)) (fun _ _ i _ => n - (intOf i).toNat)
  case atStart => exact ⟨0, by omega, rfl, Below.refl _ _, Lib.hid (fun i y hi => absurd hi (by omega))⟩
  case round =>
    obtain ⟨k, hk, rfl, hB, HE⟩ := hrel
    by_cases hlt : k < n
    · obtain ⟨b, o, vk, rfl, -, hc, hr⟩ := H4.out k hlt
      have c1 := (hB.cell (World.block_lt_of_cell? w _ hc)).trans hc
      have HR := Lib.hid (strE.rd_of (hB.mono hB0) hr)
      clear hc hr
      have hkl := get_some default (l := l) (k := k) (by rw [← Hn.out]; exact hlt)
      have HK := Lib.hid hkl; clear hkl
      generalize l[k]?.getD default = z at *
      go_wp2_with fail
      refine (Hf.out _ z _ hB HR.out).mono ?_
      rintro e w1 ⟨rfl, hbl⟩
      have B1 := Lib.hid (hB.trans (hbl.mono hB.size)); clear hB hbl
      by_cases hp : p z = true
      · go_wp2
        go_ret
        refine ⟨?_, B1.out⟩
        rw [firstIdx_at p l k _ HK.out hp HE.out]
        rfl
      · rw [Bool.not_eq_true] at hp
        go_wp2
        go_roundw
        case rel =>
          refine ⟨k + 1, by omega, by go_num, B1.out, Lib.hid (fun i y hi hy => ?_)⟩
          by_cases e : i = k
          · subst e
            rw [HK.out] at hy
            cases hy
            exact hp
          · exact HE.out i y (by omega) hy
        case measure => simp [intOf]; omega
    · obtain rfl : k = n := by omega
      go_wp2
      go_ret
      refine ⟨?_, hB⟩
      rw [firstIdx_none p l (fun x hx => ?_)]
      · rfl
      · obtain ⟨i, hi, rfl⟩ := List.getElem_of_mem hx
        exact HE.out i _ (by rw [Hn.out]; exact hi) (List.getElem?_eq_getElem hi)

set_option maxHeartbeats 400000 in
theorem containsFunc_strs (v : Value) (l : List (ByteArray)) (B : Nat) (w : World) (f : FuncId) (x y : Array Value) (p : ByteArray → Bool) (hB0 : B ≤ w.heap.size) (h : strsE.rd w B [v] l)
    (hcf : ∀ args w1, (callFunc f args).run Tryz.prog w1 = .ok (.enter f args) w1)
    (hf : ∀ vk z w1, Below w.heap.size w w1 → strE.rd w1 B [vk] z → Calls Tryz.prog f (x.push vk ++ y) w1 (Gives (.bool (p z)) w1)) :
    Calls Tryz.prog 52 #[v, .func (.func f) x y] w (Gives (.bool (l.any p)) w) := by
  obtain ⟨a, n, cap, rfl⟩ := rd_slice h
  have Hf := Lib.hid hf; clear hf
  have H := Lib.hid h; clear h
  have Hcf := Lib.hid hcf; clear hcf
  go_enter Tryz.func52, Tryz.ntmps52
  go_wp2_with fail
  refine (indexFunc_strs _ l B _ f x y p hB0 H.out Hcf.out Hf.out).mono ?_
  rintro e w1 ⟨rfl, hbl⟩
  have he := Lib.hid (firstIdx_any p l)
  generalize firstIdx p l = j at *
  go_wp2
  go_ret
  exact ⟨by rw [← he.out]; rfl, hbl⟩

end Go.Proofs.YtcifdkliiljmkaaGreatDoor

/-
  Contracts of the laws' own helpers at one slice type (written by a program of this claim's own, gen_leaf.py).
-/
namespace Go.Proofs.YtcifdkliiljmkaaGreatDoor
open Go.RowKit

set_option maxHeartbeats 400000 in
theorem eqMoveSS_any (va vb : Value) (la lb : List (List Move)) (B B' : Nat) (w : World) (hB1 : B ≤ w.heap.size) (hB2 : B' ≤ w.heap.size) (ha : movessE.rd w B [va] la) (hb : movessE.rd w B' [vb] lb) :
    Calls Tryz.prog 37 #[va, vb] w (Gives (.bool (decide (la = lb))) w) := by
  obtain ⟨a, ca, rfl, a1, a2, -, a4⟩ := rd_slice1 rfl ha
  obtain ⟨b, cb, rfl, b1, b2, -, b4⟩ := rd_slice1 rfl hb
  clear ha hb
  have H4 := Lib.hid a4; clear a4
  have K4 := Lib.hid b4; clear b4
  by_cases hlen : la.length = lb.length
  · obtain ⟨n, hn⟩ : ∃ n, n = la.length := ⟨_, rfl⟩
    rw [← hn] at hlen H4 a1 ⊢
    rw [← hlen] at K4 b1 ⊢
    have Hn := Lib.hid hn; clear hn
    have Hl := Lib.hid hlen; clear hlen
    go_enter Tryz.func37, Tryz.ntmps37
    go_wp2
    go_loopw [5] (fun i wr => ∃ k : Nat, k ≤ n ∧ i = .int .i64 k ∧ Below w.heap.size w wr ∧ Hid (∀ i, i < k → la[i]?.getD [] = lb[i]?.getD [])) (fun i _ => n - (intOf i).toNat)
    case atStart => exact ⟨0, by omega, rfl, Below.refl _ _, Lib.hid (fun i hi => absurd hi (by omega))⟩
    case round =>
      obtain ⟨k, hk, rfl, hB, HE⟩ := hrel
      by_cases hlt : k < n
      · obtain ⟨p, o, v1, rfl, -, hc, hr1⟩ := H4.out k hlt
        obtain ⟨p', o', v2, rfl, -, hc', hr2⟩ := K4.out k hlt
        have g1 := World.block_lt_of_cell? w _ hc
        have g2 := World.block_lt_of_cell? w _ hc'
        have c1 := (hB.cell g1).trans hc
        have c2 := (hB.cell g2).trans hc'
        have g1 : p < wr.heap.size := Nat.lt_of_lt_of_le g1 hB.size
        have g2 : p' < wr.heap.size := Nat.lt_of_lt_of_le g2 hB.size
        have hov := cell_over wr
        have r1 := movesE.rd_of (hB.mono hB1) hr1
        have r2 := movesE.rd_of (hB.mono hB2) hr2
        have q1 : B ≤ wr.heap.size := Nat.le_trans hB1 hB.size
        have q2 : B' ≤ wr.heap.size := Nat.le_trans hB2 hB.size
        have R1 := Lib.hid r1; clear r1 hr1
        have R2 := Lib.hid r2; clear r2 hr2
        clear hc hc'
        by_cases he : la[k]?.getD [] = lb[k]?.getD []
        · have He := Lib.hid he; clear he
          go_wp2
          refine wp_region_over (by kernel_rfl) (by kernel_rfl) ?_
          repeat (go_big_quiet_step ((go_at_call 72; exact calls_over (eqMoveS_is true _ _ _ _ _ _ _ (decide_eq_true He.out) (movesE.rd_of ((below_over wr _).mono q1) R1.out) (movesE.rd_of ((below_over wr _).mono q2) R2.out)))))
          refine wpQuiet_nil ?_
          intro w1 hw1
          go_wp2
          go_roundw
          case rel => exact ⟨k + 1, by omega, by go_num, hB.trans (hw1.mono hB.size), Lib.hid (fun i hi => by by_cases h : i = k; (subst h; exact He.out); exact HE.out i (by omega))⟩
          case measure => simp [intOf]; omega
        · have He := Lib.hid he; clear he
          go_wp2
          refine wp_region_over (by kernel_rfl) (by kernel_rfl) ?_
          repeat (go_big_quiet_step ((go_at_call 72; exact calls_over (eqMoveS_is false _ _ _ _ _ _ _ (decide_eq_false He.out) (movesE.rd_of ((below_over wr _).mono q1) R1.out) (movesE.rd_of ((below_over wr _).mono q2) R2.out)))))
          refine wpQuiet_nil ?_
          intro w1 hw1
          go_wp2
          go_ret
          have : la ≠ lb := fun e => He.out (by rw [e])
          exact ⟨by simp [this], hB.trans (hw1.mono hB.size)⟩
      · obtain rfl : k = n := by omega
        go_wp2
        go_ret
        have : la = lb := ext_getD [] (by rw [← Hn.out, Hl.out]) (fun i hi => HE.out i (by rw [Hn.out]; exact hi))
        exact ⟨by simp [this], hB⟩
  · have hb := bne_len hlen
    have : la ≠ lb := fun e => hlen (by rw [e])
    have Ht := Lib.hid this; clear this
    go_enter Tryz.func37, Tryz.ntmps37
    go_wp2
    go_ret
    exact ⟨by simp [Ht.out], Below.refl _ _⟩

theorem eqMoveSS_is (r : Bool) (va vb : Value) (la lb : List (List Move)) (B B' : Nat) (w : World) (hB1 : B ≤ w.heap.size) (hB2 : B' ≤ w.heap.size) (hr : decide (la = lb) = r) (ha : movessE.rd w B [va] la) (hb : movessE.rd w B' [vb] lb) :
    Calls Tryz.prog 37 #[va, vb] w (Gives (.bool r) w) := hr ▸ eqMoveSS_any va vb la lb B B' w hB1 hB2 ha hb

theorem info_MoveSS : (Tryz.prog.info? 91).map (fun i => (i.zero, i.size, i.bytes)) = some (some (.slice none 0 0), 1, 24) := by kernel_rfl

set_option maxHeartbeats 400000 in
theorem toMoveSS_any (v : Value) (l : List (List Move)) (B : Nat) (w : World) (hB0 : B ≤ w.heap.size) (h : movessE.rd w B [v] l) (hl : l.length ≤ 1048576) (hm : ∀ x, x ∈ l → x.length ≤ 1048576) :
    Calls Tryz.prog 65 #[v] w (Makes movessE id l w) := by
  obtain ⟨a, cap, rfl, h1, h2, h3, h4⟩ := rd_slice1 rfl h
  obtain ⟨i0, hi, hz0, hz1, hz2⟩ := info_parts info_MoveSS
  obtain ⟨n, hn⟩ : ∃ n, n = l.length := ⟨_, rfl⟩
  rw [← hn] at hl h4 h1 ⊢
  have hmk := make_run (P := Tryz.prog) Tryz.underlying34 hi hz0 hz1 n (by rw [hz2]; omega) (by omega)
  have hmo := made_owns (w := w) (ty := 91) (.slice none 0 0) n (by simp [maxLen]; omega)
  have Hn := Lib.hid hn; clear hn h
  have Hm := Lib.hid hm; clear hm
  have H4 := Lib.hid h4; clear h4
  have Hmo := Lib.hid hmo; clear hmo
  clear hi hz0 hz1 hz2
  go_enter Tryz.func65, Tryz.ntmps65
  go_wp2
  simp only [Value.cells] at *
  have hb0 : Below w.heap.size w (w.alloc (Obj.cells (madeCells #[Value.slice none 0 0] n) 91)) := (Below.refl _ _).alloc (Nat.le_refl _) _
  have HB0 := Lib.hid hb0; clear hb0
  generalize w.alloc (Obj.cells (madeCells #[Value.slice none 0 0] n) 91) = w1 at *
  obtain ⟨g, hg⟩ : ∃ g, g = w.heap.size := ⟨_, rfl⟩
  rw [← hg] at Hmo HB0 ⊢
  have Hg := Lib.hid hg; clear hg hmk
  go_loopw [4] (fun i wr => ∃ k : Nat, k ≤ n ∧ i = .int .i64 k ∧ Spine movesE 91 g n (.slice none 0 0) l k w wr) (fun i _ => n - (intOf i).toNat)
  case atStart => exact ⟨0, by omega, rfl, Spine.start Hmo.out HB0.out⟩
  case round =>
    obtain ⟨k, hk, rfl, hS⟩ := hrel
    have hB := hS.below
    by_cases hlt : k < n
    · obtain ⟨b, o, vk, rfl, hb, hc, hr⟩ := H4.out k hlt
      have hb' := World.block_lt_of_cell? w _ hc
      have c1 : wr.cell? ⟨b, o + k, none⟩ = some vk := by rw [hB.cell (by rw [Hg.out]; exact hb')]; exact hc
      have hkl : k < l.length := by rw [← Hn.out]; exact hlt
      have hr1 := movesE.rd_of (hB.mono (by rw [Hg.out]; exact hB0)) hr
      have hlm : (l[k]?.getD default).length ≤ 1048576 := Hm.out _ (by simp [List.getElem?_eq_getElem hkl])
      have hlk : l[k]? = some (l[k]?.getD default) := by simp [List.getElem?_eq_getElem hkl]
      have HLK := Lib.hid hlk; clear hlk
      have HR := Lib.hid hr1; clear hr1 hr hc hb hb'
      have HL := Lib.hid hlm; clear hlm
      go_wp2_with fail
      refine (toMoveS_any _ _ _ _ (Nat.le_trans hB0 hB.size) HR.out HL.out).mono ?_
      rintro e w1 ⟨v', fp, rfl, ho, hnd, hge, hbl⟩
      obtain ⟨a', n', cp', rfl⟩ := ow_slice ho
      obtain ⟨c2, c3⟩ := hS.cell hlt hbl
      have HS := Lib.hid (hS.step hlt hbl HLK.out ho hnd hge)
      clear hS ho hnd hge hB hbl
      go_wp2
      go_roundw
      case rel => exact ⟨k + 1, by omega, by go_num, HS.out⟩
      case measure => simp [intOf]; omega
    · obtain rfl : k = n := by omega
      go_wp2
      go_ret
      exact hS.done rfl Hn.out Hg.out

set_option maxHeartbeats 400000 in
theorem szMoveSS_any (v : Value) (l : List (List Move)) (B : Nat) (w : World) (left : Int) (hB0 : B ≤ w.heap.size) (h : movessE.rd w B [v] l) (h0 : 0 ≤ left) (h1 : left ≤ 1048576) :
    Calls Tryz.prog 61 #[v, .int .i64 left] w (Gives (.int .i64 (lim (l.length + sumLen l) left)) w) := by
  obtain ⟨a, cap, rfl, a1, a2, -, h4⟩ := rd_slice1 rfl h
  clear h
  obtain ⟨n, hn⟩ : ∃ n, n = l.length := ⟨_, rfl⟩
  rw [← hn] at h4 a1 ⊢
  have Hn := Lib.hid hn; clear hn
  have H4 := Lib.hid h4; clear h4
  by_cases hlt : left < n
  · have hr := Lib.hid (lim_of_lt (t := n + sumLen l) (left := left) (by omega))
    have ht : left - (n : Int) < 0 := by omega
    go_enter Tryz.func61, Tryz.ntmps61
    go_wp2
    go_ret
    exact ⟨by rw [hr.out]; rfl, Below.refl _ _⟩
  · have ht : ¬ left - (n : Int) < 0 := by omega
    go_enter Tryz.func61, Tryz.ntmps61
    go_wp2
    go_loopw [1, 5] (fun r i wr => ∃ k : Nat, ∃ q : Int, k ≤ n ∧ i = .int .i64 k ∧ Below w.heap.size w wr ∧ r = .int .i64 q ∧ 0 ≤ q ∧ q ≤ 1048576 ∧ Hid (q = left - n - sumLen (l.take k))) (fun _ i _ => n - (intOf i).toNat)
    case atStart => exact ⟨0, left - n, by omega, rfl, Below.refl _ _, rfl, by omega, by omega, Lib.hid (by simp [sumLen])⟩
    case round =>
      obtain ⟨k, q, hk, rfl, hB, rfl, q0, q1, HQ⟩ := hrel
      by_cases hkn : k < n
      · obtain ⟨b, o, vk, rfl, -, hc, hr⟩ := H4.out k hkn
        have c1 := (hB.cell (World.block_lt_of_cell? w _ hc)).trans hc
        have HR := Lib.hid (movesE.rd_of (hB.mono hB0) hr)
        have HK := Lib.hid (get_some default (l := l) (k := k) (by rw [← Hn.out]; exact hkn))
        clear hc hr
        generalize l[k]?.getD default = x at *
        go_wp2_with fail
        refine (szMoveS_any _ x _ _ _ HR.out q0 q1).mono ?_
        rintro e w1 ⟨rfl, hbl⟩
        have B1 := Lib.hid (hB.trans (hbl.mono hB.size)); clear hB hbl
        have HT := Lib.hid (sumLen_take l k x HK.out)
        have HM := Lib.hid (sumLen_le l (k + 1))
        by_cases hx : q < x.length
        · rw [lim_of_lt hx]
          have hr := Lib.hid (lim_of_lt (t := n + sumLen l) (left := left) (by have := HQ.out; have := HT.out; have := HM.out; omega))
          go_wp2
          go_ret
          exact ⟨by rw [hr.out]; rfl, B1.out⟩
        · rw [lim_of_ge hx]
          have ht : ¬ q - (x.length : Int) < 0 := by omega
          go_wp2
          go_roundw
          case rel => exact ⟨k + 1, q - x.length, by omega, by go_num, B1.out, rfl, by omega, by omega, Lib.hid (by have := HQ.out; have := HT.out; omega)⟩
          case measure => simp [intOf]; omega
      · obtain rfl : k = n := by omega
        have hq : q = lim (k + sumLen l) left := by
          have h1 := HQ.out
          rw [Hn.out, List.take_length] at h1
          rw [lim_of_ge (by rw [Hn.out]; omega)]
          rw [Hn.out]
          omega
        have HQ2 := Lib.hid hq; clear hq
        go_wp2
        go_ret
        exact ⟨by rw [← HQ2.out]; rfl, hB⟩

end Go.Proofs.YtcifdkliiljmkaaGreatDoor

/-
  The contracts of the laws' own toTurner and szTurner (written by a program of this claim's own, gen_structs.py).
-/
namespace Go.Proofs.YtcifdkliiljmkaaGreatDoor
open Go.RowKit

/-- No list of it is longer than the laws let by. -/
def okTurner (r : Turner) : Prop := r.moves.length ≤ 1048576 ∧ (∀ x, x ∈ r.moves → x.length ≤ 1048576)

/-- How much of it the laws count. -/
def totTurner (r : Turner) : Nat := (r.moves.length + sumLen r.moves)

theorem ok_of_totTurner {r : Turner} (h : ¬ 1048576 < totTurner r) : okTurner r := by
  unfold totTurner at h
  exact ⟨by omega, fun x hx => by have := sumLen_mem _ _ hx; omega⟩

set_option maxHeartbeats 1000000 in
theorem toTurner_any (cs : List Value) (r : Turner) (B : Nat) (w : World) (hB0 : B ≤ w.heap.size) (h : turnE.rd w B cs r) (hok : okTurner r) :
    Calls Tryz.prog 31 #[.agg cs.toArray] w (MakesS turnE id r w) := by
  obtain ⟨v2, rfl, b0, b1, h2⟩ := rd_Turner h
  obtain ⟨n2a, n2b⟩ := hok
  have N2A := Lib.hid n2a; clear n2a
  have N2B := Lib.hid n2b; clear n2b
  obtain ⟨s2, l2, c2, rfl⟩ := rd_slice h2
  have H2 := Lib.hid h2; clear h2
  clear h
  go_enter Tryz.func31, Tryz.ntmps31
  go_wp2_with fail
  generalize hW : (((w.alloc _).alloc _).alloc _ : World) = w3
  obtain ⟨A0, A1, A2, hB⟩ := blk3 hW
  clear hW
  obtain ⟨g, hg⟩ : ∃ g, g = w.heap.size := ⟨_, rfl⟩
  rw [← hg] at hB A0 A1 A2 hB0 ⊢
  have Hg := Lib.hid hg; clear hg
  have S2 := A2.lt
  refine (toMoveSS_any _ _ g _ (by omega) (movessE.rd_of hB (movessE.rd_mono hB0 H2.out)) N2A.out N2B.out).mono ?_
  rintro e x2 ⟨v2, f2, rfl, o2, d2, hge, hbl⟩
  obtain ⟨t2, u2, y2, rfl⟩ := ow_slice o2
  have G2 := Lib.hid (fun b (hb : b ∈ f2) => (show g + 1 + 1 < b from by have := hge b hb; omega))
  have D2 := Lib.hid d2; clear d2
  have O2 := Lib.hid o2; clear o2
  have B1 := hB.trans (hbl.mono (by omega))
  have A0 := A0.of hbl A0.lt
  have A1 := A1.of hbl A1.lt
  have A2 := A2.of hbl A2.lt
  clear hB hge hbl
  have p0 := A2.free 2
  have p1 := A2.cell 2 rfl
  have q0 := A2.cell 0 rfl
  have r0 := A1.free 0
  have r0c := A1.cell 0 rfl
  have q1 := A2.cell 1 rfl
  have r1 := A1.free 1
  have r1c := A1.cell 1 rfl
  have r2 := A1.free 2
  have r2c := A1.cell 2 rfl
  have HA1 := Lib.hid A1; clear A1
  have HB1 := Lib.hid B1; clear B1
  have S2 := A2.lt
  clear A0 A2
  go_wp2_with fail
  have A1 := ((((HA1.out.other (a := ⟨g + 1 + 1, 2, none⟩) (by simp) (.slice t2 u2 y2)).set 0 (.int .i64 r.letters)).set 1 (.int .i64 r.start)).set 2 (.slice t2 u2 y2))
  have hbut := (((((But.refl [g + 1, g + 1 + 1] x2).setCell (a := ⟨g + 1 + 1, 2, none⟩) (by simp) (.slice t2 u2 y2)).setCell (a := ⟨g + 1, 0, none⟩) (by simp) (.int .i64 r.letters)).setCell (a := ⟨g + 1, 1, none⟩) (by simp) (.int .i64 r.start)).setCell (a := ⟨g + 1, 2, none⟩) (by simp) (.slice t2 u2 y2))
  generalize (((x2.setCell ⟨g + 1 + 1, 2, none⟩ (.slice t2 u2 y2)).setCell ⟨g + 1, 0, none⟩ (.int .i64 r.letters)).setCell ⟨g + 1, 1, none⟩ (.int .i64 r.start)).setCell ⟨g + 1, 2, none⟩ (.slice t2 u2 y2) = wf at *
  have a0 := A1.cell 0 rfl
  have a1 := A1.cell 1 rfl
  have a2 := A1.cell 2 rfl
  refine bodyPost_ret (v := .agg #[.int .i64 r.letters, .int .i64 r.start, .slice t2 u2 y2]) ?_ rfl ?_
  · simp [results, Tryz.results31, go_sem, a0, a1, a2]
  · have o2 := movessE.ow_but O2.out hbut (fun b hb => by have := G2.out b hb; simp; omega)
    refine ⟨_, _, rfl, ow_Turner b0 b1 o2, D2.out, ?_, ?_⟩
    · intro b hb
      rw [← Hg.out]
      have := G2.out b hb; omega
    · rw [← Hg.out]
      exact HB1.out.trans (hbut.below (by intro b hb; simp at hb; omega) (by omega))

set_option maxHeartbeats 400000 in
theorem szTurner_any (cs : List Value) (r : Turner) (B : Nat) (w : World) (left : Int) (hB0 : B ≤ w.heap.size) (h : turnE.rd w B cs r) (h0 : 0 ≤ left) (h1 : left ≤ 1048576) :
    Calls Tryz.prog 25 #[.agg cs.toArray, .int .i64 left] w (Gives (.int .i64 (lim (totTurner r) left)) w) := by
  obtain ⟨v2, rfl, -, -, h2⟩ := rd_Turner h
  obtain ⟨s2, l2, c2, rfl⟩ := rd_slice h2
  have H2 := Lib.hid h2; clear h2
  have HT : Hid (totTurner r = (r.moves.length + sumLen r.moves)) := Lib.hid rfl
  clear h
  go_enter Tryz.func25, Tryz.ntmps25
  go_wp2_with fail
  generalize hW : w.alloc _ = w1
  obtain ⟨A0, hB⟩ := blk1 hW
  clear hW
  refine (szMoveSS_any _ r.moves w.heap.size _ _ hB.size (movessE.rd_of hB (movessE.rd_mono hB0 H2.out)) h0 h1).mono ?_
  rintro e x2 ⟨rfl, hbl⟩
  have B1 := hB.trans (hbl.mono hB.size)
  have A1 := A0.of hbl A0.lt
  clear hbl hB A0
  obtain ⟨z2, hz⟩ : ∃ z : Nat, z = r.moves.length + sumLen r.moves := ⟨_, rfl⟩
  rw [← hz]
  have HZ2 := Lib.hid hz; clear hz
  by_cases hx : left < (z2 : Nat)
  · rw [lim_of_lt hx]
    have hr := Lib.hid (lim_of_lt (t := totTurner r) (left := left) (by have := HT.out; have := HZ2.out; omega))
    go_wp2
    go_ret
    exact ⟨by rw [hr.out]; rfl, B1⟩
  rw [lim_of_ge hx]
  have hr : Hid (lim (totTurner r) left = left - (z2 : Nat)) := Lib.hid (by have := HT.out; have := HZ2.out; rw [lim_of_ge (by omega)]; omega)
  have ht : ¬ left - (z2 : Int) < 0 := by omega
  go_wp2
  go_ret
  exact ⟨by rw [hr.out]; rfl, B1⟩

end Go.Proofs.YtcifdkliiljmkaaGreatDoor

/-
  Contracts of the laws' own helpers at one slice type (written by a program of this claim's own, gen_leaf.py).
-/
namespace Go.Proofs.YtcifdkliiljmkaaGreatDoor
open Go.RowKit

def sumF {α : Type} (f : α → Nat) (l : List α) : Nat := (l.map f).sum
theorem sumF_take {α : Type} (f : α → Nat) (l : List α) (k : Nat) (x : α) (h : l[k]? = some x) : sumF f (l.take (k + 1)) = sumF f (l.take k) + f x := by
  obtain ⟨hk, rfl⟩ := List.getElem?_eq_some_iff.1 h
  rw [List.take_succ_eq_append_getElem hk]
  unfold sumF
  rw [List.map_append, List.sum_append, List.map_cons, List.map_nil, List.sum_cons, List.sum_nil, Nat.add_zero]
theorem sumF_le {α : Type} (f : α → Nat) (l : List α) (k : Nat) : sumF f (l.take k) ≤ sumF f l := by
  conv => rhs; rw [← List.take_append_drop k l]
  simp only [sumF, List.map_append, List.sum_append]
  omega
theorem strs_ne {x y : ByteArray} (h : ¬ x = y) : (x.toList == y.toList) = false := by
  rw [beq_eq_false_iff_ne]
  intro e
  apply h
  rw [ByteArray.toList_eq, ByteArray.toList_eq] at e
  obtain ⟨a⟩ := x
  obtain ⟨b⟩ := y
  have : a = b := Array.toList_inj.1 e
  rw [this]
def strSz (l : List ByteArray) : Nat := l.length + sumF ByteArray.size l
def strsSz (l : List (List ByteArray)) : Nat := l.length + sumF strSz l

theorem info_StringS : (Tryz.prog.info? 9).map (fun i => (i.zero, i.size, i.bytes)) = some (some (.string ByteArray.empty), 1, 16) := by kernel_rfl

set_option maxHeartbeats 400000 in
theorem toStringS_any (v : Value) (l : List ByteArray) (B : Nat) (w : World) (h : strsE.rd w B [v] l) (hl : l.length ≤ 1048576) :
    Calls Tryz.prog 20 #[v] w (Makes strsE id l w) := by
  obtain ⟨a, cap, rfl, h1, h2, h3, h4⟩ := rd_strs h
  obtain ⟨i0, hi, hz0, hz1, hz2⟩ := info_parts info_StringS
  obtain ⟨n, hn⟩ : ∃ n, n = l.length := ⟨_, rfl⟩
  rw [← hn] at hl h4 h1 ⊢
  have hmk := make_run (P := Tryz.prog) Tryz.underlying51 hi hz0 hz1 n (by rw [hz2]; omega) (by omega)
  have hmo := made_owns (w := w) (ty := 9) (.string ByteArray.empty) n (by simp [maxLen]; omega)
  have Hn := Lib.hid hn; clear hn h
  have H4 := Lib.hid h4; clear h4
  have Hmo := Lib.hid hmo; clear hmo
  clear hi hz0 hz1 hz2
  go_enter Tryz.func20, Tryz.ntmps20
  go_wp2
  simp only [Value.cells] at *
  have hb0 : Below w.heap.size w (w.alloc (Obj.cells (madeCells #[.string ByteArray.empty] n) 9)) := (Below.refl _ _).alloc (Nat.le_refl _) _
  have HB0 := Lib.hid hb0; clear hb0
  generalize w.alloc (Obj.cells (madeCells #[.string ByteArray.empty] n) 9) = w1 at *
  obtain ⟨g, hg⟩ : ∃ g, g = w.heap.size := ⟨_, rfl⟩
  rw [← hg] at Hmo HB0 ⊢
  have Hg := Lib.hid hg; clear hg hmk
  go_loopw [4] (fun i wr => ∃ k : Nat, k ≤ n ∧ i = .int .i64 k ∧ Below g w wr ∧ wr.ownsRow g 9 1 (.slice (some ⟨g, 0, none⟩) n n) n (((l.take k).map (Value.string)) ++ List.replicate (n - k) (.string ByteArray.empty))) (fun i _ => n - (intOf i).toNat)
  case atStart => exact ⟨0, by omega, rfl, HB0.out, by simpa using Hmo.out⟩
  case round =>
    obtain ⟨k, hk, rfl, hB, hO⟩ := hrel
    by_cases hlt : k < n
    · obtain ⟨b, o, rfl, hb, hc, hsz⟩ := H4.out k hlt
      have hb' := World.block_lt_of_cell? w _ hc
      have c1 : wr.cell? ⟨b, o + k, none⟩ = some (Value.string (l[k]?.getD ByteArray.empty)) := by rw [hB.cell (by rw [Hg.out]; exact hb')]; exact hc
      have c2 := hO.cellAt k (by omega)
      have c2' : wr.cell? ⟨g, k, none⟩ = some (.string ByteArray.empty) := by
        have hlen : ((l.take k).map (Value.string)).length = k := by have := Hn.out; simp; omega
        rw [c2, List.getElem?_append_right (by rw [hlen]; exact Nat.le_refl _), hlen, Nat.sub_self, List.getElem?_replicate, if_pos (by omega)]
      have c3 := hO.frozenAt k
      have HS := Lib.hid (hO.stored k (Value.string (l[k]?.getD ByteArray.empty)))
      clear c2 hO hc hb hb'
      have HX := Lib.hid (take_succ_map ByteArray.empty (Value.string) l k n (.string ByteArray.empty) Hn.out.symm hlt)
      generalize l[k]?.getD ByteArray.empty = x at *
      go_wp2
      go_roundw
      case rel => exact ⟨k + 1, by omega, by go_num, hB.setCell (Nat.le_refl _) _, by rw [← HX.out]; exact HS.out.1⟩
      case measure => simp [intOf]; omega
    · obtain rfl : k = n := by omega
      go_wp2
      go_ret
      have hl2 : l.take k = l := by rw [Hn.out, List.take_length]
      rw [hl2, Nat.sub_self, List.replicate_zero, List.append_nil] at hO
      refine makes_flat (g := g) (Value.string) rfl (fun x hx => ?_) (by rw [← Hn.out]; exact hO) hB Hg.out
      obtain ⟨i, hi, rfl⟩ := List.getElem_of_mem hx
      obtain ⟨b, o, _, _, _, h5⟩ := H4.out i (by rw [Hn.out]; exact hi)
      exact ⟨⟨rfl, by simp [List.getElem?_eq_getElem hi] at h5; simpa [maxLen] using h5⟩, rfl⟩

set_option maxHeartbeats 400000 in
theorem eqStringS_any (va vb : Value) (la lb : List ByteArray) (B B' : Nat) (w : World) (ha : strsE.rd w B [va] la) (hb : strsE.rd w B' [vb] lb) :
    Calls Tryz.prog 22 #[va, vb] w (Gives (.bool (decide (la = lb))) w) := by
  obtain ⟨a, ca, rfl, a1, a2, _, a4⟩ := rd_strs ha
  obtain ⟨b, cb, rfl, b1, b2, _, b4⟩ := rd_strs hb
  clear ha hb
  have H4 := Lib.hid a4; clear a4
  have K4 := Lib.hid b4; clear b4
  by_cases hlen : la.length = lb.length
  · obtain ⟨n, hn⟩ : ∃ n, n = la.length := ⟨_, rfl⟩
    rw [← hn] at hlen H4 a1 ⊢
    rw [← hlen] at K4 b1 ⊢
    have Hn := Lib.hid hn; clear hn
    have Hl := Lib.hid hlen; clear hlen
    go_enter Tryz.func22, Tryz.ntmps22
    go_wp2
    go_loopw [5] (fun i wr => ∃ k : Nat, k ≤ n ∧ i = .int .i64 k ∧ Below w.heap.size w wr ∧ Hid (∀ i, i < k → la[i]?.getD ByteArray.empty = lb[i]?.getD ByteArray.empty)) (fun i _ => n - (intOf i).toNat)
    case atStart => exact ⟨0, by omega, rfl, Below.refl _ _, Lib.hid (fun i hi => absurd hi (by omega))⟩
    case round =>
      obtain ⟨k, hk, rfl, hB, HE⟩ := hrel
      by_cases hlt : k < n
      · obtain ⟨p, o, rfl, _, hc, -⟩ := H4.out k hlt
        obtain ⟨p', o', rfl, _, hc', -⟩ := K4.out k hlt
        have c1 := (hB.cell (World.block_lt_of_cell? w _ hc)).trans hc
        have c2 := (hB.cell (World.block_lt_of_cell? w _ hc')).trans hc'
        clear hc hc'
        generalize hx : la[k]?.getD ByteArray.empty = x at *
        generalize hy : lb[k]?.getD ByteArray.empty = y at *
        have HX := Lib.hid hx; have HY := Lib.hid hy; clear hx hy
        by_cases he : x = y
        · have heb : (x.toList == y.toList) = true := by rw [he]; simp
          have He := Lib.hid he; clear he
          go_wp2
          go_quiet (fail)
          go_wp2
          go_roundw
          case rel => exact ⟨k + 1, by omega, by go_num, below_drewN hB _, Lib.hid (fun i hi => by by_cases h : i = k; (subst h; rw [HX.out, HY.out]; exact He.out); exact HE.out i (by omega))⟩
          case measure => simp [intOf]; omega
        · have heb : (x.toList == y.toList) = false := strs_ne he
          have He := Lib.hid he; clear he
          go_wp2
          go_quiet (fail)
          go_wp2
          go_ret
          have : la ≠ lb := fun e => He.out (by rw [← HX.out, ← HY.out, e])
          exact ⟨by simp [this], below_drewN hB _⟩
      · obtain rfl : k = n := by omega
        go_wp2
        go_ret
        have : la = lb := ext_getD ByteArray.empty (by rw [← Hn.out, Hl.out]) (fun i hi => HE.out i (by rw [Hn.out]; exact hi))
        exact ⟨by simp [this], hB⟩
  · have hb := bne_len hlen
    have : la ≠ lb := fun e => hlen (by rw [e])
    have Ht := Lib.hid this; clear this
    go_enter Tryz.func22, Tryz.ntmps22
    go_wp2
    go_ret
    exact ⟨by simp [Ht.out], Below.refl _ _⟩

theorem eqStringS_is (r : Bool) (va vb : Value) (la lb : List ByteArray) (B B' : Nat) (w : World) (hr : decide (la = lb) = r) (ha : strsE.rd w B [va] la) (hb : strsE.rd w B' [vb] lb) :
    Calls Tryz.prog 22 #[va, vb] w (Gives (.bool r) w) := hr ▸ eqStringS_any va vb la lb B B' w ha hb

set_option maxHeartbeats 400000 in
theorem szStringS_raw (v : Value) (l : List (ByteArray)) (B : Nat) (w : World) (left : Int) (h : strsE.rd w B [v] l) (h0 : 0 ≤ left) (h1 : left ≤ 1048576) :
    Calls Tryz.prog 18 #[v, .int .i64 left] w (Gives (.int .i64 (lim (l.length + sumF ByteArray.size l) left)) w) := by
  obtain ⟨a, cap, rfl, a1, a2, -, h4⟩ := rd_slice1 rfl h
  clear h
  obtain ⟨n, hn⟩ : ∃ n, n = l.length := ⟨_, rfl⟩
  rw [← hn] at h4 a1 ⊢
  have Hn := Lib.hid hn; clear hn
  have H4 := Lib.hid h4; clear h4
  by_cases hlt : left < n
  · have hr := Lib.hid (lim_of_lt (t := n + sumF ByteArray.size l) (left := left) (by omega))
    have ht : left - (n : Int) < 0 := by omega
    go_enter Tryz.func18, Tryz.ntmps18
    go_wp2
    go_ret
    exact ⟨by rw [hr.out]; rfl, Below.refl _ _⟩
  · have ht : ¬ left - (n : Int) < 0 := by omega
    go_enter Tryz.func18, Tryz.ntmps18
    go_wp2
    go_loopw [1, 5] (fun r i wr => ∃ k : Nat, ∃ q : Int, k ≤ n ∧ i = .int .i64 k ∧ Below w.heap.size w wr ∧ r = .int .i64 q ∧ 0 ≤ q ∧ q ≤ 1048576 ∧ Hid (q = left - n - sumF ByteArray.size (l.take k))) (fun _ i _ => n - (intOf i).toNat)
    case atStart => exact ⟨0, left - n, by omega, rfl, Below.refl _ _, rfl, by omega, by omega, Lib.hid (by simp [sumF])⟩
    case round =>
      obtain ⟨k, q, hk, rfl, hB, rfl, q0, q1, HQ⟩ := hrel
      by_cases hkn : k < n
      · obtain ⟨b, o, vk, rfl, -, hc, hr⟩ := H4.out k hkn
        have c1 := (hB.cell (World.block_lt_of_cell? w _ hc)).trans hc
        have HR := Lib.hid (strE.rd_mono (Nat.le_refl _) hr)
        have HK := Lib.hid (get_some default (l := l) (k := k) (by rw [← Hn.out]; exact hkn))
        clear hc hr
        generalize l[k]?.getD default = x at *
        have hxs : x.size ≤ 9223372036854775807 := by have := HR.out.2; simpa [maxLen] using this
        obtain rfl : vk = .string x := by have := HR.out.1; simpa using this
        have hw : IntKind.i64.wrap (q - (x.size : Int)) = q - (x.size : Int) := IntWalk.i64_in _ ⟨by omega, by omega⟩
        have B1 := Lib.hid hB; clear hB
        have HT := Lib.hid (sumF_take ByteArray.size l k x HK.out)
        have HM := Lib.hid (sumF_le ByteArray.size l (k + 1))
        by_cases hx : q < x.size
        · have ht : q - (x.size : Int) < 0 := by omega
          have hr := Lib.hid (lim_of_lt (t := n + sumF ByteArray.size l) (left := left) (by have := HQ.out; have := HT.out; have := HM.out; omega))
          go_wp2
          go_ret
          exact ⟨by rw [hr.out]; rfl, B1.out⟩
        · have ht : ¬ q - (x.size : Int) < 0 := by omega
          go_wp2
          go_roundw
          case rel => exact ⟨k + 1, q - x.size, by omega, by go_num, B1.out, rfl, by omega, by omega, Lib.hid (by have := HQ.out; have := HT.out; omega)⟩
          case measure => simp [intOf]; omega
      · obtain rfl : k = n := by omega
        have hq : q = lim (k + sumF ByteArray.size l) left := by
          have h1 := HQ.out
          rw [Hn.out, List.take_length] at h1
          rw [lim_of_ge (by rw [Hn.out]; omega)]
          rw [Hn.out]
          omega
        have HQ2 := Lib.hid hq; clear hq
        go_wp2
        go_ret
        exact ⟨by rw [← HQ2.out]; rfl, hB⟩

theorem szStringS_any (v : Value) (l : List ByteArray) (B : Nat) (w : World) (left : Int) (h : strsE.rd w B [v] l) (h0 : 0 ≤ left) (h1 : left ≤ 1048576) :
    Calls Tryz.prog 18 #[v, .int .i64 left] w (Gives (.int .i64 (lim (strSz l) left)) w) := szStringS_raw v l B w left h h0 h1

end Go.Proofs.YtcifdkliiljmkaaGreatDoor

/-
  Contracts of the laws' own helpers at one slice type (written by a program of this claim's own, gen_leaf.py).
-/
namespace Go.Proofs.YtcifdkliiljmkaaGreatDoor
open Go.RowKit

set_option maxHeartbeats 400000 in
theorem eqStringSS_any (va vb : Value) (la lb : List (List ByteArray)) (B B' : Nat) (w : World) (hB1 : B ≤ w.heap.size) (hB2 : B' ≤ w.heap.size) (ha : strssE.rd w B [va] la) (hb : strssE.rd w B' [vb] lb) :
    Calls Tryz.prog 38 #[va, vb] w (Gives (.bool (decide (la = lb))) w) := by
  obtain ⟨a, ca, rfl, a1, a2, -, a4⟩ := rd_slice1 rfl ha
  obtain ⟨b, cb, rfl, b1, b2, -, b4⟩ := rd_slice1 rfl hb
  clear ha hb
  have H4 := Lib.hid a4; clear a4
  have K4 := Lib.hid b4; clear b4
  by_cases hlen : la.length = lb.length
  · obtain ⟨n, hn⟩ : ∃ n, n = la.length := ⟨_, rfl⟩
    rw [← hn] at hlen H4 a1 ⊢
    rw [← hlen] at K4 b1 ⊢
    have Hn := Lib.hid hn; clear hn
    have Hl := Lib.hid hlen; clear hlen
    go_enter Tryz.func38, Tryz.ntmps38
    go_wp2
    go_loopw [5] (fun i wr => ∃ k : Nat, k ≤ n ∧ i = .int .i64 k ∧ Below w.heap.size w wr ∧ Hid (∀ i, i < k → la[i]?.getD [] = lb[i]?.getD [])) (fun i _ => n - (intOf i).toNat)
    case atStart => exact ⟨0, by omega, rfl, Below.refl _ _, Lib.hid (fun i hi => absurd hi (by omega))⟩
    case round =>
      obtain ⟨k, hk, rfl, hB, HE⟩ := hrel
      by_cases hlt : k < n
      · obtain ⟨p, o, v1, rfl, -, hc, hr1⟩ := H4.out k hlt
        obtain ⟨p', o', v2, rfl, -, hc', hr2⟩ := K4.out k hlt
        have g1 := World.block_lt_of_cell? w _ hc
        have g2 := World.block_lt_of_cell? w _ hc'
        have c1 := (hB.cell g1).trans hc
        have c2 := (hB.cell g2).trans hc'
        have g1 : p < wr.heap.size := Nat.lt_of_lt_of_le g1 hB.size
        have g2 : p' < wr.heap.size := Nat.lt_of_lt_of_le g2 hB.size
        have hov := cell_over wr
        have r1 := strsE.rd_of (hB.mono hB1) hr1
        have r2 := strsE.rd_of (hB.mono hB2) hr2
        have q1 : B ≤ wr.heap.size := Nat.le_trans hB1 hB.size
        have q2 : B' ≤ wr.heap.size := Nat.le_trans hB2 hB.size
        have R1 := Lib.hid r1; clear r1 hr1
        have R2 := Lib.hid r2; clear r2 hr2
        clear hc hc'
        by_cases he : la[k]?.getD [] = lb[k]?.getD []
        · have He := Lib.hid he; clear he
          go_wp2
          refine wp_region_over (by kernel_rfl) (by kernel_rfl) ?_
          repeat (go_big_quiet_step ((go_at_call 22; exact calls_over (eqStringS_is true _ _ _ _ _ _ _ (decide_eq_true He.out) (strsE.rd_of ((below_over wr _).mono q1) R1.out) (strsE.rd_of ((below_over wr _).mono q2) R2.out)))))
          refine wpQuiet_nil ?_
          intro w1 hw1
          go_wp2
          go_roundw
          case rel => exact ⟨k + 1, by omega, by go_num, hB.trans (hw1.mono hB.size), Lib.hid (fun i hi => by by_cases h : i = k; (subst h; exact He.out); exact HE.out i (by omega))⟩
          case measure => simp [intOf]; omega
        · have He := Lib.hid he; clear he
          go_wp2
          refine wp_region_over (by kernel_rfl) (by kernel_rfl) ?_
          repeat (go_big_quiet_step ((go_at_call 22; exact calls_over (eqStringS_is false _ _ _ _ _ _ _ (decide_eq_false He.out) (strsE.rd_of ((below_over wr _).mono q1) R1.out) (strsE.rd_of ((below_over wr _).mono q2) R2.out)))))
          refine wpQuiet_nil ?_
          intro w1 hw1
          go_wp2
          go_ret
          have : la ≠ lb := fun e => He.out (by rw [e])
          exact ⟨by simp [this], hB.trans (hw1.mono hB.size)⟩
      · obtain rfl : k = n := by omega
        go_wp2
        go_ret
        have : la = lb := ext_getD [] (by rw [← Hn.out, Hl.out]) (fun i hi => HE.out i (by rw [Hn.out]; exact hi))
        exact ⟨by simp [this], hB⟩
  · have hb := bne_len hlen
    have : la ≠ lb := fun e => hlen (by rw [e])
    have Ht := Lib.hid this; clear this
    go_enter Tryz.func38, Tryz.ntmps38
    go_wp2
    go_ret
    exact ⟨by simp [Ht.out], Below.refl _ _⟩

theorem eqStringSS_is (r : Bool) (va vb : Value) (la lb : List (List ByteArray)) (B B' : Nat) (w : World) (hB1 : B ≤ w.heap.size) (hB2 : B' ≤ w.heap.size) (hr : decide (la = lb) = r) (ha : strssE.rd w B [va] la) (hb : strssE.rd w B' [vb] lb) :
    Calls Tryz.prog 38 #[va, vb] w (Gives (.bool r) w) := hr ▸ eqStringSS_any va vb la lb B B' w hB1 hB2 ha hb

theorem info_StringSS : (Tryz.prog.info? 51).map (fun i => (i.zero, i.size, i.bytes)) = some (some (.slice none 0 0), 1, 24) := by kernel_rfl

set_option maxHeartbeats 400000 in
theorem toStringSS_any (v : Value) (l : List (List ByteArray)) (B : Nat) (w : World) (hB0 : B ≤ w.heap.size) (h : strssE.rd w B [v] l) (hl : l.length ≤ 1048576) (hm : ∀ x, x ∈ l → x.length ≤ 1048576) :
    Calls Tryz.prog 32 #[v] w (Makes strssE id l w) := by
  obtain ⟨a, cap, rfl, h1, h2, h3, h4⟩ := rd_slice1 rfl h
  obtain ⟨i0, hi, hz0, hz1, hz2⟩ := info_parts info_StringSS
  obtain ⟨n, hn⟩ : ∃ n, n = l.length := ⟨_, rfl⟩
  rw [← hn] at hl h4 h1 ⊢
  have hmk := make_run (P := Tryz.prog) Tryz.underlying25 hi hz0 hz1 n (by rw [hz2]; omega) (by omega)
  have hmo := made_owns (w := w) (ty := 51) (.slice none 0 0) n (by simp [maxLen]; omega)
  have Hn := Lib.hid hn; clear hn h
  have Hm := Lib.hid hm; clear hm
  have H4 := Lib.hid h4; clear h4
  have Hmo := Lib.hid hmo; clear hmo
  clear hi hz0 hz1 hz2
  go_enter Tryz.func32, Tryz.ntmps32
  go_wp2
  simp only [Value.cells] at *
  have hb0 : Below w.heap.size w (w.alloc (Obj.cells (madeCells #[Value.slice none 0 0] n) 51)) := (Below.refl _ _).alloc (Nat.le_refl _) _
  have HB0 := Lib.hid hb0; clear hb0
  generalize w.alloc (Obj.cells (madeCells #[Value.slice none 0 0] n) 51) = w1 at *
  obtain ⟨g, hg⟩ : ∃ g, g = w.heap.size := ⟨_, rfl⟩
  rw [← hg] at Hmo HB0 ⊢
  have Hg := Lib.hid hg; clear hg hmk
  go_loopw [4] (fun i wr => ∃ k : Nat, k ≤ n ∧ i = .int .i64 k ∧ Spine strsE 51 g n (.slice none 0 0) l k w wr) (fun i _ => n - (intOf i).toNat)
  case atStart => exact ⟨0, by omega, rfl, Spine.start Hmo.out HB0.out⟩
  case round =>
    obtain ⟨k, hk, rfl, hS⟩ := hrel
    have hB := hS.below
    by_cases hlt : k < n
    · obtain ⟨b, o, vk, rfl, hb, hc, hr⟩ := H4.out k hlt
      have hb' := World.block_lt_of_cell? w _ hc
      have c1 : wr.cell? ⟨b, o + k, none⟩ = some vk := by rw [hB.cell (by rw [Hg.out]; exact hb')]; exact hc
      have hkl : k < l.length := by rw [← Hn.out]; exact hlt
      have hr1 := strsE.rd_of (hB.mono (by rw [Hg.out]; exact hB0)) hr
      have hlm : (l[k]?.getD default).length ≤ 1048576 := Hm.out _ (by simp [List.getElem?_eq_getElem hkl])
      have hlk : l[k]? = some (l[k]?.getD default) := by simp [List.getElem?_eq_getElem hkl]
      have HLK := Lib.hid hlk; clear hlk
      have HR := Lib.hid hr1; clear hr1 hr hc hb hb'
      have HL := Lib.hid hlm; clear hlm
      go_wp2_with fail
      refine (toStringS_any _ _ _ _ HR.out HL.out).mono ?_
      rintro e w1 ⟨v', fp, rfl, ho, hnd, hge, hbl⟩
      obtain ⟨a', n', cp', rfl⟩ := ow_slice ho
      obtain ⟨c2, c3⟩ := hS.cell hlt hbl
      have HS := Lib.hid (hS.step hlt hbl HLK.out ho hnd hge)
      clear hS ho hnd hge hB hbl
      go_wp2
      go_roundw
      case rel => exact ⟨k + 1, by omega, by go_num, HS.out⟩
      case measure => simp [intOf]; omega
    · obtain rfl : k = n := by omega
      go_wp2
      go_ret
      exact hS.done rfl Hn.out Hg.out

set_option maxHeartbeats 400000 in
theorem szStringSS_any (v : Value) (l : List (List ByteArray)) (B : Nat) (w : World) (left : Int) (hB0 : B ≤ w.heap.size) (h : strssE.rd w B [v] l) (h0 : 0 ≤ left) (h1 : left ≤ 1048576) :
    Calls Tryz.prog 26 #[v, .int .i64 left] w (Gives (.int .i64 (lim (l.length + sumF strSz l) left)) w) := by
  obtain ⟨a, cap, rfl, a1, a2, -, h4⟩ := rd_slice1 rfl h
  clear h
  obtain ⟨n, hn⟩ : ∃ n, n = l.length := ⟨_, rfl⟩
  rw [← hn] at h4 a1 ⊢
  have Hn := Lib.hid hn; clear hn
  have H4 := Lib.hid h4; clear h4
  by_cases hlt : left < n
  · have hr := Lib.hid (lim_of_lt (t := n + sumF strSz l) (left := left) (by omega))
    have ht : left - (n : Int) < 0 := by omega
    go_enter Tryz.func26, Tryz.ntmps26
    go_wp2
    go_ret
    exact ⟨by rw [hr.out]; rfl, Below.refl _ _⟩
  · have ht : ¬ left - (n : Int) < 0 := by omega
    go_enter Tryz.func26, Tryz.ntmps26
    go_wp2
    go_loopw [1, 5] (fun r i wr => ∃ k : Nat, ∃ q : Int, k ≤ n ∧ i = .int .i64 k ∧ Below w.heap.size w wr ∧ r = .int .i64 q ∧ 0 ≤ q ∧ q ≤ 1048576 ∧ Hid (q = left - n - sumF strSz (l.take k))) (fun _ i _ => n - (intOf i).toNat)
    case atStart => exact ⟨0, left - n, by omega, rfl, Below.refl _ _, rfl, by omega, by omega, Lib.hid (by simp [sumF])⟩
    case round =>
      obtain ⟨k, q, hk, rfl, hB, rfl, q0, q1, HQ⟩ := hrel
      by_cases hkn : k < n
      · obtain ⟨b, o, vk, rfl, -, hc, hr⟩ := H4.out k hkn
        have c1 := (hB.cell (World.block_lt_of_cell? w _ hc)).trans hc
        have HR := Lib.hid (strsE.rd_of (hB.mono hB0) hr)
        have HK := Lib.hid (get_some default (l := l) (k := k) (by rw [← Hn.out]; exact hkn))
        clear hc hr
        generalize l[k]?.getD default = x at *
        go_wp2_with fail
        refine (szStringS_any _ x _ _ _ HR.out q0 q1).mono ?_
        rintro e w1 ⟨rfl, hbl⟩
        have B1 := Lib.hid (hB.trans (hbl.mono hB.size)); clear hB hbl
        have HT := Lib.hid (sumF_take strSz l k x HK.out)
        have HM := Lib.hid (sumF_le strSz l (k + 1))
        by_cases hx : q < strSz x
        · rw [lim_of_lt hx]
          have hr := Lib.hid (lim_of_lt (t := n + sumF strSz l) (left := left) (by have := HQ.out; have := HT.out; have := HM.out; omega))
          go_wp2
          go_ret
          exact ⟨by rw [hr.out]; rfl, B1.out⟩
        · rw [lim_of_ge hx]
          have ht : ¬ q - (strSz x : Int) < 0 := by omega
          go_wp2
          go_roundw
          case rel => exact ⟨k + 1, q - strSz x, by omega, by go_num, B1.out, rfl, by omega, by omega, Lib.hid (by have := HQ.out; have := HT.out; omega)⟩
          case measure => simp [intOf]; omega
      · obtain rfl : k = n := by omega
        have hq : q = lim (k + sumF strSz l) left := by
          have h1 := HQ.out
          rw [Hn.out, List.take_length] at h1
          rw [lim_of_ge (by rw [Hn.out]; omega)]
          rw [Hn.out]
          omega
        have HQ2 := Lib.hid hq; clear hq
        go_wp2
        go_ret
        exact ⟨by rw [← HQ2.out]; rfl, hB⟩

end Go.Proofs.YtcifdkliiljmkaaGreatDoor

/-
  Plain lemmas: append on a slice of the call's own, its elements of whatever type ('Enc'); where the new slice lies. No program is named here.
-/
namespace Go.Proofs.YtcifdkliiljmkaaGreatDoor
open Go.RowKit

/-- What an append's second argument yields: nothing (nil), or so many elements behind an address. -/
def SrcS (w : World) (size : Nat) (x : Value) (m : Nat) (news : List Value) : Prop :=
  (∃ c, x = .slice none 0 c ∧ m = 0 ∧ news = []) ∨
    (∃ ad c, x = .slice (some ad) m c ∧ news.length = m * size ∧ (∀ j u, news[j]? = some u → w.cell? (ad.add j) = some u) ∧ ∀ u, u ∈ news → u.oneCell' = true)

theorem run_append_place {P : Program} (w : World) (t ty e : TypeId) (i : TypeInfo) (z : Value) (size bytes : Nat) (ht : P.underlying t = some (.slice e)) (hi : P.info? e = some i) (hz : i.zero = some z)
    (hsize : i.size = size) (hby : i.bytes = bytes) (hzs : z.cells.size = size) (hsz : 0 < size) (v : Value) (n : Nat) (xs : List Value) (hown : w.ownsRow 0 e size v n xs)
    (x : Value) (m : Nat) (news : List Value) (hs : SrcS w size x m news) (h63 : n + m ≤ maxLen) (hbytes : (n + m) * bytes ≤ 140737488355328) :
    ∃ v' w', (Builtin.append_ #[t, t] ty #[v, x]).run P w = .ok v' w' ∧ w'.ownsRow 0 e size v' (n + m) (xs ++ news) ∧ w.grownBy w' v.ownBlock ∧ (v'.ownBlock = v.ownBlock ∨ ∃ g, v'.ownBlock = some g ∧ w.heap.size ≤ g) ∧
      (v' = .slice none 0 0 ↔ v = .slice none 0 0 ∧ m = 0) := by
  rcases hs with ⟨c, rfl, rfl, rfl⟩ | ⟨ad, c, rfl, hl, hnews, h1⟩
  · refine ⟨v, w, ?_, by simpa using hown, ⟨rfl, rfl, rfl, Nat.le_refl _, fun _ _ _ => rfl⟩, .inl rfl, by simp⟩
    have hS : Src P size t (.slice none 0 c) 0 [] w := Src.ofNil w ht c
    subst hsize
    rcases hown.2 with ⟨rfl, rfl⟩ | ⟨g, cap, cur, rfl, _, hg, hnc, hcm, hcs, htake⟩
    · simp [Builtin.append_, run_underlying ht, sizeOf, typeInfo, hi, Builtin.lenOf, Builtin.firstCells]
    · have := run_append_room_src (P := P) w t t ty e i ht hi g 0 n cap (.slice none 0 c) 0 [] hS (by omega) (fun j hj => by simp at hj) (fun j hj => by simp at hj)
      simpa [World.setCells] using this
  · obtain ⟨v', w', hr, h2, h3, h4⟩ := run_append_own (P := P) w 0 t ty e i z size bytes ht hi hz hsize hby hzs hsz v n xs hown ad m c news hl hnews h1 h63 hbytes (Nat.zero_le _)
    refine ⟨v', w', hr, h2, h3, ?_, h4⟩
    rcases hown.2 with ⟨rfl, rfl⟩ | ⟨g, cap, cur, rfl, _, hg, hnc, hcm, hcs, htake⟩
    · have hn : w.ownsRow w.heap.size e size (.slice none 0 0) 0 xs := ⟨hown.1, .inl ⟨rfl, rfl⟩⟩
      obtain ⟨v'', w'', hr', k2, -, -⟩ := run_append_own (P := P) w w.heap.size t ty e i z size bytes ht hi hz hsize hby hzs hsz _ 0 xs hn ad m c news hl hnews h1 h63 hbytes (Nat.le_refl _)
      rw [hr] at hr'
      obtain ⟨rfl, rfl⟩ : v' = v'' ∧ w' = w'' := by simpa using hr'
      rcases hv : v'.ownBlock with _ | g
      · exact .inl rfl
      · exact .inr ⟨g, rfl, (k2.lt g hv).1⟩
    · subst hsize
      by_cases hroom : n + m ≤ cap
      · have hfit : n * i.size + news.length ≤ cur.size := by rw [hl, hcs, ← Nat.add_mul]; exact Nat.mul_le_mul_right _ hroom
        have hr' := run_append_room (P := P) w t ty e i ht hi g n cap cur hg ad m c news hl hnews h1 hroom hfit
        rw [hr] at hr'
        obtain ⟨rfl, -⟩ : v' = _ ∧ w' = _ := by simpa using hr'
        exact .inl rfl
      · have holds : ∀ j u, xs[j]? = some u → w.cell? ((⟨g, 0, none⟩ : Addr).add j) = some u := hown.cells (g := g) rfl
        subst hby
        have hsm : n + m ≤ 9223372036854775807 := by simp only [maxLen] at h63; omega
        have hr' := run_append_grow (P := P) w t ty e i z ht hi hz ⟨g, 0, none⟩ n cap xs hown.1 holds ad m c news hl hnews (by omega) (by omega) (growslice_fits (by omega) hbytes)
        rw [hr] at hr'
        obtain ⟨rfl, -⟩ : v' = _ ∧ w' = _ := by simpa using hr'
        exact .inr ⟨_, rfl, Nat.le_refl _⟩

/-- append on a slice of one's own, the new elements with blocks of their own. -/
theorem own_append {α : Type} {E : Enc α} {ty : TypeId} {P : Program} (w : World) (t ry : TypeId) (i : TypeInfo) (z : Value) (bytes : Nat) (ht : P.underlying t = some (.slice ty)) (hi : P.info? ty = some i) (hz : i.zero = some z)
    (hsize : i.size = E.size) (hby : i.bytes = bytes) (hzs : z.cells.size = E.size) (hsz : 0 < E.size) {v : Value} {l : List α} {fp : List Nat} (hown : (sliceE E ty).ow w [v] l fp)
    (x : Value) {ys : List α} {css : List (List Value)} {fys : List (List Nat)} (hys : OwAll E w ys css fys) (hs : SrcS w E.size x ys.length css.flatten) (hd : (fp ++ fys.flatten).Nodup)
    (h63 : l.length + ys.length ≤ maxLen) (hbytes : (l.length + ys.length) * bytes ≤ 140737488355328) :
    ∃ v' w' fp', (Builtin.append_ #[t, t] ry #[v, x]).run P w = .ok v' w' ∧ (sliceE E ty).ow w' [v'] (l ++ ys) fp' ∧ fp'.Nodup ∧ (∀ b, b ∈ fp' → b ∈ fp ∨ b ∈ fys.flatten ∨ w.heap.size ≤ b) ∧ But fp w w' ∧
      (v' = .slice none 0 0 ↔ v = .slice none 0 0 ∧ ys.length = 0) := by
  obtain ⟨v0, xss, fps, hv, h1, h2, rfl⟩ := hown
  obtain rfl : v = v0 := by simpa using hv
  obtain ⟨v', w', hr, k1, k2, k3, k4⟩ := run_append_place (P := P) w t ry ty i z E.size bytes ht hi hz hsize hby hzs hsz v l.length xss.flatten h2 x ys.length css.flatten hs h63 hbytes
  have hlt1 := h1.lt
  have hlt2 := hys.lt
  rw [List.append_assoc, List.nodup_append] at hd
  obtain ⟨n1, n2, n3⟩ := hd
  have hfr : ∀ b, b ∈ fps.flatten ++ fys.flatten → w'.heap[b]? = w.heap[b]? := by
    intro b hb
    have hbl : b < w.heap.size := by
      rcases List.mem_append.1 hb with h | h
      · exact hlt1 b h
      · exact hlt2 b h
    refine k2.block b hbl (fun e => ?_)
    exact n3 b (by rw [← e]; simp) b hb rfl
  refine ⟨v', w', v'.ownBlock.toList ++ (fps ++ fys).flatten, hr, ⟨v', xss ++ css, fps ++ fys, rfl, ?_, ?_, rfl⟩, ?_, ?_, ?_, k4⟩
  · exact (h1.frame fun b hb => hfr b (List.mem_append_left _ hb)).append (hys.frame fun b hb => hfr b (List.mem_append_right _ hb))
  · rw [List.length_append, List.flatten_append]; exact k1
  · rw [List.nodup_append, List.flatten_append]
    refine ⟨nodup_option _, n2, fun a ha b hb e => ?_⟩
    subst e
    rcases k3 with k3 | ⟨g, k3, hg⟩
    · rw [k3] at ha; exact n3 a ha a hb rfl
    · rw [k3] at ha
      have hag : a = g := by simpa using ha
      have hbl : a < w.heap.size := by
        rcases List.mem_append.1 hb with h | h
        · exact hlt1 a h
        · exact hlt2 a h
      omega
  · intro b hb
    rw [List.flatten_append] at hb
    rcases List.mem_append.1 hb with hb | hb
    · rcases k3 with k3 | ⟨g, k3, hg⟩
      · rw [k3] at hb; exact .inl (List.mem_append_left _ hb)
      · rw [k3] at hb
        have : b = g := by simpa using hb
        subst this
        exact .inr (.inr hg)
    · rcases List.mem_append.1 hb with hb | hb
      · exact .inl (List.mem_append_right _ hb)
      · exact .inr (.inl hb)
  · refine ⟨k2.os, k2.tape, k2.output, k2.size, fun k hk hn => k2.block k hk (fun e => hn ?_)⟩
    exact List.mem_append_left _ (by rw [← e]; simp)

/-- The law for the walk. -/
theorem wpList_append_enc {α : Type} {E : Enc α} {ty : TypeId} {P : Program} {w : World} {ops : Array Oper} {rest : List Oper} {o : Oper} {a : Act} {Q : Exit → Act → World → Prop} (hgd : o.guard = none) (s x : Operand) (t : TypeId)
    (ho : o.op = .call { callee := .builtin .append, args := #[s, x], argTypes := #[t, t] })
    (i : TypeInfo) (z : Value) (bytes : Nat) (ht : P.underlying t = some (.slice ty)) (hi : P.info? ty = some i) (hz : i.zero = some z)
    (hsize : i.size = E.size) (hby : i.bytes = bytes) (hzs : z.cells.size = E.size) (hsz : 0 < E.size) {v : Value} {l : List α} {fp : List Nat} (hv : a.eval s = v) (hown : (sliceE E ty).ow w [v] l fp)
    {ys : List α} {css : List (List Value)} {fys : List (List Nat)} (hys : OwAll E w ys css fys) (hs : SrcS w E.size (a.eval x) ys.length css.flatten) (hd : (fp ++ fys.flatten).Nodup)
    (h63 : l.length + ys.length ≤ maxLen) (hbytes : (l.length + ys.length) * bytes ≤ 140737488355328)
    (h : ∀ v' w' fp', (sliceE E ty).ow w' [v'] (l ++ ys) fp' → fp'.Nodup → (∀ b, b ∈ fp' → b ∈ fp ∨ b ∈ fys.flatten ∨ w.heap.size ≤ b) → But fp w w' → wpList P ops Q rest (a.put o.dst v') w') : wpList P ops Q (o :: rest) a w := by
  obtain ⟨v', w', fp', hr, k1, k2, k3, k4, -⟩ := own_append (P := P) w t o.type i z bytes ht hi hz hsize hby hzs hsz hown (a.eval x) hys hs hd h63 hbytes
  refine wpList_plain hgd fun K hK => ?_
  unfold Oper.wp execOp
  simp only [ho, resolve, invoke, builtin, Sem.run_bind, Sem.run_pure, Result.andThen_ok, List.map_toArray, List.map_cons, List.map_nil, hv, hr]
  exact hK _ _ (h v' w' fp' k1 k2 k3 k4)

theorem SrcS.one {w : World} {size : Nat} {ad : Addr} {c : Nat} {cs : List Value} (hl : cs.length = size) (hc : ∀ j u, cs[j]? = some u → w.cell? (ad.add j) = some u) (h1 : ∀ u, u ∈ cs → u.oneCell' = true) : SrcS w size (.slice (some ad) 1 c) 1 [cs].flatten :=
  .inr ⟨ad, c, rfl, by simp [hl], by simpa using hc, by simpa using h1⟩

/-- What a slice of readable elements without blocks of their own yields. -/
theorem src_of_rd {α : Type} {E : Enc α} {ty : TypeId} {w : World} {B : Nat} {v : Value} {l : List α} (c : α → List Value) (inv : ∀ x cs, E.rd w B cs x → cs = c x ∧ E.ow w cs x []) (h1 : ∀ x u, u ∈ c x → u.oneCell' = true) (h : (sliceE E ty).rd w B [v] l) :
    ∃ css fys, OwAll E w l css fys ∧ fys.flatten = [] ∧ SrcS w E.size v l.length css.flatten := by
  obtain ⟨a, cap, hv, e1, e2, e3, e4⟩ := h
  obtain rfl : v = .slice a l.length cap := by simpa using hv
  have hall : ∀ x, x ∈ l → E.ow w (c x) x [] := by
    intro x hx
    obtain ⟨k, hk, rfl⟩ := List.getElem_of_mem hx
    obtain ⟨b, o, xs, -, -, hr, -⟩ := e4 k _ (List.getElem?_eq_getElem hk)
    obtain ⟨rfl, h⟩ := inv _ _ hr
    exact h
  have key : ∀ l : List α, (∀ x, x ∈ l → E.ow w (c x) x []) → OwAll E w l (l.map c) (l.map fun _ => []) := by
    intro l
    induction l with
    | nil => intro _; exact .nil
    | cons a l ih => intro h; exact .cons (h a (by simp)) (ih fun x hx => h x (by simp [hx]))
  refine ⟨l.map c, l.map fun _ => [], key l hall, by simp, ?_⟩
  have hlen : ∀ x, x ∈ l → (c x).length = E.size := fun x hx => E.rd_len (E.ow_rd (B := 0) (fun b hb => by cases hb) (hall x hx))
  rcases a with _ | ad
  · have : l = [] := List.eq_nil_of_length_eq_zero (by have := e3 rfl; omega)
    subst this
    exact .inl ⟨cap, rfl, rfl, rfl⟩
  · refine .inr ⟨ad, cap, rfl, ?_, ?_, ?_⟩
    · have := (key l hall).flat; exact this
    · intro j u hu
      have hj : j < (l.map c).flatten.length := (List.getElem?_eq_some_iff.1 hu).1
      have hfl := (key l hall).flat
      rw [hfl] at hj
      have hpos : 0 < E.size := by
        rcases Nat.eq_zero_or_pos E.size with h | h
        · rw [h, Nat.mul_zero] at hj; omega
        · exact h
      have hk : j / E.size < l.length := Nat.div_lt_of_lt_mul (by rw [Nat.mul_comm]; exact hj)
      obtain ⟨b, o, xs, ha, -, hr, hc⟩ := e4 (j / E.size) _ (List.getElem?_eq_getElem hk)
      obtain ⟨rfl, -⟩ := inv _ _ hr
      obtain rfl : ad = ⟨b, o, none⟩ := by simpa using ha
      have hno : ∀ b, b ∈ (l.map fun _ => ([] : List Nat)).flatten → b < w.heap.size := by
        have e : (l.map fun _ => ([] : List Nat)).flatten = [] := by simp
        rw [e]; intro b hb; cases hb
      obtain ⟨xs', f', q1, -, -, -, q5⟩ := (key l hall).rdAt (B := w.heap.size) hno (j / E.size) _ (List.getElem?_eq_getElem hk)
      have hxs : xs' = c l[j / E.size] := by
        rw [List.getElem?_map, List.getElem?_eq_getElem hk] at q1
        simpa using q1.symm
      subst hxs
      have hm : j % E.size < (c l[j / E.size]).length := by rw [hlen _ (List.getElem_mem hk)]; exact Nat.mod_lt _ hpos
      have e := q5 (j % E.size) _ (List.getElem?_eq_getElem hm)
      have hj2 : j / E.size * E.size + j % E.size = j := by rw [Nat.mul_comm]; exact Nat.div_add_mod j E.size
      rw [hj2, hu] at e
      have := hc (j % E.size) _ (List.getElem?_eq_getElem hm)
      rw [hj2] at this
      rw [Addr.add_lit, this]
      exact e.symm
    · intro u hu
      obtain ⟨cs, hcs, hu⟩ := List.mem_flatten.1 hu
      obtain ⟨x, hx, rfl⟩ := List.mem_map.1 hcs
      exact h1 x u hu

/-- append of one element. -/
theorem wpList_append_one {α : Type} {E : Enc α} {ty : TypeId} {P : Program} {w : World} {ops : Array Oper} {rest : List Oper} {o : Oper} {a : Act} {Q : Exit → Act → World → Prop} (hgd : o.guard = none) (s x : Operand) (t : TypeId)
    (ho : o.op = .call { callee := .builtin .append, args := #[s, x], argTypes := #[t, t] })
    (i : TypeInfo) (z : Value) (bytes : Nat) (ht : P.underlying t = some (.slice ty)) (hi : P.info? ty = some i) (hz : i.zero = some z)
    (hsize : i.size = E.size) (hby : i.bytes = bytes) (hzs : z.cells.size = E.size) (hsz : 0 < E.size) (hb64 : bytes ≤ 64) {v : Value} {l : List α} {fp : List Nat} (hv : a.eval s = v) (hown : (sliceE E ty).ow w [v] l fp) (hn : fp.Nodup)
    {g c : Nat} (hx : a.eval x = .slice (some ⟨g, 0, none⟩) 1 c) {y : α} {cs : List Value} {fy : List Nat} (hc : ∀ j u, cs[j]? = some u → w.cell? ⟨g, j, none⟩ = some u) (h1 : ∀ u, u ∈ cs → u.oneCell' = true) (hy : E.ow w cs y fy)
    (hny : fy.Nodup) (hd : ∀ b, b ∈ fy → b ∉ fp) (hlen : l.length ≤ 1000000000000)
    (h : ∀ v' w' fp', (sliceE E ty).ow w' [v'] (l ++ [y]) fp' → fp'.Nodup → (∀ b, b ∈ fp' → b ∈ fp ∨ b ∈ fy ∨ w.heap.size ≤ b) → But fp w w' → wpList P ops Q rest (a.put o.dst v') w') : wpList P ops Q (o :: rest) a w := by
  have hcl : cs.length = E.size := E.rd_len (E.rd_ow hy)
  have hb : (l.length + [y].length) * bytes ≤ 140737488355328 := by
    have : (l.length + [y].length) * bytes ≤ 1000000000001 * 64 := Nat.mul_le_mul (by simp; omega) hb64
    omega
  refine wpList_append_enc (E := E) (ty := ty) hgd s x t ho i z bytes ht hi hz hsize hby hzs hsz hv hown (OwAll.one hy) ?_ ?_ (by simp [maxLen]; omega) hb (fun v' w' fp' k1 k2 k3 k4 => h v' w' fp' k1 k2 (fun b hb => by have := k3 b hb; simpa using this) k4)
  · rw [hx]
    exact SrcS.one (ad := ⟨g, 0, none⟩) hcl (fun j u hu => by rw [Addr.add_lit]; simpa using hc j u hu) h1
  · rw [List.nodup_append]
    exact ⟨hn, by simpa using hny, fun p hp q hq e => hd q (by simpa using hq) (e ▸ hp)⟩

/-- A slice whose elements, of one cell each, have just been written into a block. -/
theorem ow_lit {α : Type} {E : Enc α} {ty : TypeId} {w : World} {g : Nat} {l : List α} (f : α → Value) (hE : E.size = 1) (hf : ∀ x, x ∈ l → E.ow w [f x] x []) (h : Blk w g (l.map f) ty) (hl : l.length ≤ maxLen) :
    (sliceE E ty).ow w [.slice (some ⟨g, 0, none⟩) l.length l.length] l [g] :=
  ow_flat (base := 0) f hE hf ⟨by simp, .inr ⟨g, l.length, (l.map f).toArray, rfl, Nat.zero_le _, h, Nat.le_refl _, hl, by simp, by rw [List.take_of_length_le] <;> simp⟩⟩

theorem ow_nil {α : Type} (E : Enc α) (ty : TypeId) (w : World) : (sliceE E ty).ow w [.slice none 0 0] [] [] := ⟨_, [], [], rfl, .nil, by simpa using World.ownsRow_nil w 0 ty E.size, rfl⟩

theorem Blk.set3 {w w' : World} {b : Nat} {cs : List Value} {ty : TypeId} (h : Blk w b cs ty) (hl : cs.length = 3) {v0 v1 v2 : Value} (hW : ((w.setCell ⟨b, 0, none⟩ v0).setCell ⟨b, 1, none⟩ v1).setCell ⟨b, 2, none⟩ v2 = w') :
    Blk w' b [v0, v1, v2] ty ∧ But [b] w w' := by
  subst hW
  refine ⟨?_, (((But.refl _ _).setCell (by simp) _).setCell (by simp) _).setCell (by simp) _⟩
  match cs, hl with
  | [_, _, _], _ => exact ((h.set 0 _).set 1 _).set 2 _

theorem Blk.set4 {w w' : World} {b : Nat} {cs : List Value} {ty : TypeId} (h : Blk w b cs ty) (hl : cs.length = 4) {v0 v1 v2 v3 : Value} (hW : (((w.setCell ⟨b, 0, none⟩ v0).setCell ⟨b, 1, none⟩ v1).setCell ⟨b, 2, none⟩ v2).setCell ⟨b, 3, none⟩ v3 = w') :
    Blk w' b [v0, v1, v2, v3] ty ∧ But [b] w w' := by
  subst hW
  refine ⟨?_, ((((But.refl _ _).setCell (by simp) _).setCell (by simp) _).setCell (by simp) _).setCell (by simp) _⟩
  match cs, hl with
  | [_, _, _, _], _ => exact (((h.set 0 _).set 1 _).set 2 _).set 3 _

theorem Enc.ow_set {α : Type} (E : Enc α) {w : World} {cs : List Value} {x : α} {fp : List Nat} (h : E.ow w cs x fp) {a : Addr} (ha : ∀ b, b ∈ fp → b ≠ a.block) (v : Value) : E.ow (w.setCell a v) cs x fp :=
  E.ow_frame (fun b hb => Below.heap_setCell _ _ _ _ (ha b hb)) h

theorem bd0 : (-9223372036854775808 : Int) ≤ 0 ∧ (0 : Int) ≤ 9223372036854775807 := by decide
theorem bd1 : (-9223372036854775808 : Int) ≤ 1 ∧ (1 : Int) ≤ 9223372036854775807 := by decide

theorem one_mem {v : Value} (h : v.oneCell' = true) : ∀ u, u ∈ [v] → u.oneCell' = true := by
  intro u hu
  have e : u = v := by simpa using hu
  rw [e]; exact h

/-- A new element that is itself a slice just written, stored in a block of one cell. -/
theorem lit_slice {α : Type} {E : Enc α} {ty tb : TypeId} (w : World) (l : List α) (f : α → Value) (hE : E.size = 1) (hf : ∀ (w : World) x, x ∈ l → E.ow w [f x] x []) (hl : l.length ≤ maxLen) {W : World}
    (hW : W = (w.alloc (.cells (l.map f).toArray ty)).alloc (.cells #[.slice (some ⟨w.heap.size, 0, none⟩) l.length l.length] tb)) :
    (sliceE E ty).ow W [.slice (some ⟨w.heap.size, 0, none⟩) l.length l.length] l [w.heap.size] ∧ (∀ j u, [Value.slice (some ⟨w.heap.size, 0, none⟩) l.length l.length][j]? = some u → W.cell? ⟨w.heap.size + 1, j, none⟩ = some u) ∧
      Below w.heap.size w W ∧ W.heap.size = w.heap.size + 1 + 1 := by
  obtain ⟨h0, h1, h2⟩ := blk2 hW.symm
  refine ⟨ow_lit f hE (hf W) (by simpa using h0) hl, fun j u hu => h1.cell j (by simpa using hu), h2, by rw [hW]; simp⟩

/-- A call that hands back a struct of new memory and a code. -/
abbrev MakesC {α : Type} (E : Enc α) (x : α × Int) (w : World) (e : Ending) (w' : World) : Prop :=
  ∃ cs fp, e = .returned (.tuple #[.agg cs.toArray, .int .i64 x.2]) ∧ E.ow w' cs x.1 fp ∧ fp.Nodup ∧ (∀ b, b ∈ fp → w.heap.size ≤ b) ∧ Below w.heap.size w w'

end Go.Proofs.YtcifdkliiljmkaaGreatDoor

/-
  append at the program's slice types (written by a program of this claim's own, gen_app.py).
-/
namespace Go.Proofs.YtcifdkliiljmkaaGreatDoor
open Go.RowKit

theorem inf_Int64S : (Tryz.prog.info? 2).map (fun i => (i.zero, i.size, i.bytes)) = some (some (.int .i64 0), 1, 8) := by kernel_rfl

theorem app1_Int64S {w : World} {ops : Array Oper} {rest : List Oper} {o : Oper} {a : Act} {Q : Exit → Act → World → Prop} (hgd : o.guard = none) (s x : Operand)
    (ho : o.op = .call { callee := .builtin .append, args := #[s, x], argTypes := #[89, 89] }) {v : Value} {l : List _} {fp : List Nat} (hv : a.eval s = v) (hown : (sliceE intE 2).ow w [v] l fp) (hn : fp.Nodup)
    {g c : Nat} (hx : a.eval x = .slice (some ⟨g, 0, none⟩) 1 c) {y : _} {cs : List Value} {fy : List Nat} (hc : ∀ j u, cs[j]? = some u → w.cell? ⟨g, j, none⟩ = some u) (h1 : ∀ u, u ∈ cs → u.oneCell' = true) (hy : (intE).ow w cs y fy)
    (hny : fy.Nodup) (hd : ∀ b, b ∈ fy → b ∉ fp) (hlen : l.length ≤ 1000000000000)
    (h : ∀ v' w' fp', (sliceE intE 2).ow w' [v'] (l ++ [y]) fp' → fp'.Nodup → (∀ b, b ∈ fp' → b ∈ fp ∨ b ∈ fy ∨ w.heap.size ≤ b) → But fp w w' → wpList Tryz.prog ops Q rest (a.put o.dst v') w') : wpList Tryz.prog ops Q (o :: rest) a w := by
  obtain ⟨i0, hi, hz0, hz1, hz2⟩ := info_parts inf_Int64S
  exact wpList_append_one (E := intE) (ty := 2) hgd s x _ ho i0 _ _ Tryz.underlying89 hi hz0 hz1 hz2 rfl (by decide) (by decide) hv hown hn hx hc h1 hy hny hd hlen h

theorem appS_Int64S {w : World} {ops : Array Oper} {rest : List Oper} {o : Oper} {a : Act} {Q : Exit → Act → World → Prop} (hgd : o.guard = none) (s x : Operand)
    (ho : o.op = .call { callee := .builtin .append, args := #[s, x], argTypes := #[89, 89] }) {v : Value} {l : List _} {fp : List Nat} (hv : a.eval s = v) (hown : (sliceE intE 2).ow w [v] l fp)
    {ys : List _} {css : List (List Value)} {fys : List (List Nat)} (hys : OwAll (intE) w ys css fys) (hs : SrcS w (intE).size (a.eval x) ys.length css.flatten) (hd : (fp ++ fys.flatten).Nodup) (hlen : l.length + ys.length ≤ 1000000000000)
    (h : ∀ v' w' fp', (sliceE intE 2).ow w' [v'] (l ++ ys) fp' → fp'.Nodup → (∀ b, b ∈ fp' → b ∈ fp ∨ b ∈ fys.flatten ∨ w.heap.size ≤ b) → But fp w w' → wpList Tryz.prog ops Q rest (a.put o.dst v') w') : wpList Tryz.prog ops Q (o :: rest) a w := by
  obtain ⟨i0, hi, hz0, hz1, hz2⟩ := info_parts inf_Int64S
  exact wpList_append_enc (E := intE) (ty := 2) hgd s x _ ho i0 _ _ Tryz.underlying89 hi hz0 hz1 hz2 rfl (by decide) hv hown hys hs hd (by simp only [maxLen]; omega) (by omega) h

theorem inf_BoolS : (Tryz.prog.info? 4).map (fun i => (i.zero, i.size, i.bytes)) = some (some (.bool false), 1, 1) := by kernel_rfl

theorem app1_BoolS {w : World} {ops : Array Oper} {rest : List Oper} {o : Oper} {a : Act} {Q : Exit → Act → World → Prop} (hgd : o.guard = none) (s x : Operand)
    (ho : o.op = .call { callee := .builtin .append, args := #[s, x], argTypes := #[28, 28] }) {v : Value} {l : List _} {fp : List Nat} (hv : a.eval s = v) (hown : (sliceE boolE 4).ow w [v] l fp) (hn : fp.Nodup)
    {g c : Nat} (hx : a.eval x = .slice (some ⟨g, 0, none⟩) 1 c) {y : _} {cs : List Value} {fy : List Nat} (hc : ∀ j u, cs[j]? = some u → w.cell? ⟨g, j, none⟩ = some u) (h1 : ∀ u, u ∈ cs → u.oneCell' = true) (hy : (boolE).ow w cs y fy)
    (hny : fy.Nodup) (hd : ∀ b, b ∈ fy → b ∉ fp) (hlen : l.length ≤ 1000000000000)
    (h : ∀ v' w' fp', (sliceE boolE 4).ow w' [v'] (l ++ [y]) fp' → fp'.Nodup → (∀ b, b ∈ fp' → b ∈ fp ∨ b ∈ fy ∨ w.heap.size ≤ b) → But fp w w' → wpList Tryz.prog ops Q rest (a.put o.dst v') w') : wpList Tryz.prog ops Q (o :: rest) a w := by
  obtain ⟨i0, hi, hz0, hz1, hz2⟩ := info_parts inf_BoolS
  exact wpList_append_one (E := boolE) (ty := 4) hgd s x _ ho i0 _ _ Tryz.underlying28 hi hz0 hz1 hz2 rfl (by decide) (by decide) hv hown hn hx hc h1 hy hny hd hlen h

theorem appS_BoolS {w : World} {ops : Array Oper} {rest : List Oper} {o : Oper} {a : Act} {Q : Exit → Act → World → Prop} (hgd : o.guard = none) (s x : Operand)
    (ho : o.op = .call { callee := .builtin .append, args := #[s, x], argTypes := #[28, 28] }) {v : Value} {l : List _} {fp : List Nat} (hv : a.eval s = v) (hown : (sliceE boolE 4).ow w [v] l fp)
    {ys : List _} {css : List (List Value)} {fys : List (List Nat)} (hys : OwAll (boolE) w ys css fys) (hs : SrcS w (boolE).size (a.eval x) ys.length css.flatten) (hd : (fp ++ fys.flatten).Nodup) (hlen : l.length + ys.length ≤ 1000000000000)
    (h : ∀ v' w' fp', (sliceE boolE 4).ow w' [v'] (l ++ ys) fp' → fp'.Nodup → (∀ b, b ∈ fp' → b ∈ fp ∨ b ∈ fys.flatten ∨ w.heap.size ≤ b) → But fp w w' → wpList Tryz.prog ops Q rest (a.put o.dst v') w') : wpList Tryz.prog ops Q (o :: rest) a w := by
  obtain ⟨i0, hi, hz0, hz1, hz2⟩ := info_parts inf_BoolS
  exact wpList_append_enc (E := boolE) (ty := 4) hgd s x _ ho i0 _ _ Tryz.underlying28 hi hz0 hz1 hz2 rfl (by decide) hv hown hys hs hd (by simp only [maxLen]; omega) (by omega) h

theorem inf_StringS : (Tryz.prog.info? 9).map (fun i => (i.zero, i.size, i.bytes)) = some (some (.string ByteArray.empty), 1, 16) := by kernel_rfl

theorem app1_StringS {w : World} {ops : Array Oper} {rest : List Oper} {o : Oper} {a : Act} {Q : Exit → Act → World → Prop} (hgd : o.guard = none) (s x : Operand)
    (ho : o.op = .call { callee := .builtin .append, args := #[s, x], argTypes := #[51, 51] }) {v : Value} {l : List _} {fp : List Nat} (hv : a.eval s = v) (hown : (sliceE strE 9).ow w [v] l fp) (hn : fp.Nodup)
    {g c : Nat} (hx : a.eval x = .slice (some ⟨g, 0, none⟩) 1 c) {y : _} {cs : List Value} {fy : List Nat} (hc : ∀ j u, cs[j]? = some u → w.cell? ⟨g, j, none⟩ = some u) (h1 : ∀ u, u ∈ cs → u.oneCell' = true) (hy : (strE).ow w cs y fy)
    (hny : fy.Nodup) (hd : ∀ b, b ∈ fy → b ∉ fp) (hlen : l.length ≤ 1000000000000)
    (h : ∀ v' w' fp', (sliceE strE 9).ow w' [v'] (l ++ [y]) fp' → fp'.Nodup → (∀ b, b ∈ fp' → b ∈ fp ∨ b ∈ fy ∨ w.heap.size ≤ b) → But fp w w' → wpList Tryz.prog ops Q rest (a.put o.dst v') w') : wpList Tryz.prog ops Q (o :: rest) a w := by
  obtain ⟨i0, hi, hz0, hz1, hz2⟩ := info_parts inf_StringS
  exact wpList_append_one (E := strE) (ty := 9) hgd s x _ ho i0 _ _ Tryz.underlying51 hi hz0 hz1 hz2 rfl (by decide) (by decide) hv hown hn hx hc h1 hy hny hd hlen h

theorem appS_StringS {w : World} {ops : Array Oper} {rest : List Oper} {o : Oper} {a : Act} {Q : Exit → Act → World → Prop} (hgd : o.guard = none) (s x : Operand)
    (ho : o.op = .call { callee := .builtin .append, args := #[s, x], argTypes := #[51, 51] }) {v : Value} {l : List _} {fp : List Nat} (hv : a.eval s = v) (hown : (sliceE strE 9).ow w [v] l fp)
    {ys : List _} {css : List (List Value)} {fys : List (List Nat)} (hys : OwAll (strE) w ys css fys) (hs : SrcS w (strE).size (a.eval x) ys.length css.flatten) (hd : (fp ++ fys.flatten).Nodup) (hlen : l.length + ys.length ≤ 1000000000000)
    (h : ∀ v' w' fp', (sliceE strE 9).ow w' [v'] (l ++ ys) fp' → fp'.Nodup → (∀ b, b ∈ fp' → b ∈ fp ∨ b ∈ fys.flatten ∨ w.heap.size ≤ b) → But fp w w' → wpList Tryz.prog ops Q rest (a.put o.dst v') w') : wpList Tryz.prog ops Q (o :: rest) a w := by
  obtain ⟨i0, hi, hz0, hz1, hz2⟩ := info_parts inf_StringS
  exact wpList_append_enc (E := strE) (ty := 9) hgd s x _ ho i0 _ _ Tryz.underlying51 hi hz0 hz1 hz2 rfl (by decide) hv hown hys hs hd (by simp only [maxLen]; omega) (by omega) h

theorem inf_Int64SS : (Tryz.prog.info? 89).map (fun i => (i.zero, i.size, i.bytes)) = some (some (.slice none 0 0), 1, 24) := by kernel_rfl

theorem app1_Int64SS {w : World} {ops : Array Oper} {rest : List Oper} {o : Oper} {a : Act} {Q : Exit → Act → World → Prop} (hgd : o.guard = none) (s x : Operand)
    (ho : o.op = .call { callee := .builtin .append, args := #[s, x], argTypes := #[29, 29] }) {v : Value} {l : List _} {fp : List Nat} (hv : a.eval s = v) (hown : (sliceE intsE 89).ow w [v] l fp) (hn : fp.Nodup)
    {g c : Nat} (hx : a.eval x = .slice (some ⟨g, 0, none⟩) 1 c) {y : _} {cs : List Value} {fy : List Nat} (hc : ∀ j u, cs[j]? = some u → w.cell? ⟨g, j, none⟩ = some u) (h1 : ∀ u, u ∈ cs → u.oneCell' = true) (hy : (intsE).ow w cs y fy)
    (hny : fy.Nodup) (hd : ∀ b, b ∈ fy → b ∉ fp) (hlen : l.length ≤ 1000000000000)
    (h : ∀ v' w' fp', (sliceE intsE 89).ow w' [v'] (l ++ [y]) fp' → fp'.Nodup → (∀ b, b ∈ fp' → b ∈ fp ∨ b ∈ fy ∨ w.heap.size ≤ b) → But fp w w' → wpList Tryz.prog ops Q rest (a.put o.dst v') w') : wpList Tryz.prog ops Q (o :: rest) a w := by
  obtain ⟨i0, hi, hz0, hz1, hz2⟩ := info_parts inf_Int64SS
  exact wpList_append_one (E := intsE) (ty := 89) hgd s x _ ho i0 _ _ Tryz.underlying29 hi hz0 hz1 hz2 rfl (by decide) (by decide) hv hown hn hx hc h1 hy hny hd hlen h

theorem appS_Int64SS {w : World} {ops : Array Oper} {rest : List Oper} {o : Oper} {a : Act} {Q : Exit → Act → World → Prop} (hgd : o.guard = none) (s x : Operand)
    (ho : o.op = .call { callee := .builtin .append, args := #[s, x], argTypes := #[29, 29] }) {v : Value} {l : List _} {fp : List Nat} (hv : a.eval s = v) (hown : (sliceE intsE 89).ow w [v] l fp)
    {ys : List _} {css : List (List Value)} {fys : List (List Nat)} (hys : OwAll (intsE) w ys css fys) (hs : SrcS w (intsE).size (a.eval x) ys.length css.flatten) (hd : (fp ++ fys.flatten).Nodup) (hlen : l.length + ys.length ≤ 1000000000000)
    (h : ∀ v' w' fp', (sliceE intsE 89).ow w' [v'] (l ++ ys) fp' → fp'.Nodup → (∀ b, b ∈ fp' → b ∈ fp ∨ b ∈ fys.flatten ∨ w.heap.size ≤ b) → But fp w w' → wpList Tryz.prog ops Q rest (a.put o.dst v') w') : wpList Tryz.prog ops Q (o :: rest) a w := by
  obtain ⟨i0, hi, hz0, hz1, hz2⟩ := info_parts inf_Int64SS
  exact wpList_append_enc (E := intsE) (ty := 89) hgd s x _ ho i0 _ _ Tryz.underlying29 hi hz0 hz1 hz2 rfl (by decide) hv hown hys hs hd (by simp only [maxLen]; omega) (by omega) h

theorem inf_BoolSS : (Tryz.prog.info? 28).map (fun i => (i.zero, i.size, i.bytes)) = some (some (.slice none 0 0), 1, 24) := by kernel_rfl

theorem inf_StringSS : (Tryz.prog.info? 51).map (fun i => (i.zero, i.size, i.bytes)) = some (some (.slice none 0 0), 1, 24) := by kernel_rfl

theorem app1_StringSS {w : World} {ops : Array Oper} {rest : List Oper} {o : Oper} {a : Act} {Q : Exit → Act → World → Prop} (hgd : o.guard = none) (s x : Operand)
    (ho : o.op = .call { callee := .builtin .append, args := #[s, x], argTypes := #[25, 25] }) {v : Value} {l : List _} {fp : List Nat} (hv : a.eval s = v) (hown : (sliceE strsE 51).ow w [v] l fp) (hn : fp.Nodup)
    {g c : Nat} (hx : a.eval x = .slice (some ⟨g, 0, none⟩) 1 c) {y : _} {cs : List Value} {fy : List Nat} (hc : ∀ j u, cs[j]? = some u → w.cell? ⟨g, j, none⟩ = some u) (h1 : ∀ u, u ∈ cs → u.oneCell' = true) (hy : (strsE).ow w cs y fy)
    (hny : fy.Nodup) (hd : ∀ b, b ∈ fy → b ∉ fp) (hlen : l.length ≤ 1000000000000)
    (h : ∀ v' w' fp', (sliceE strsE 51).ow w' [v'] (l ++ [y]) fp' → fp'.Nodup → (∀ b, b ∈ fp' → b ∈ fp ∨ b ∈ fy ∨ w.heap.size ≤ b) → But fp w w' → wpList Tryz.prog ops Q rest (a.put o.dst v') w') : wpList Tryz.prog ops Q (o :: rest) a w := by
  obtain ⟨i0, hi, hz0, hz1, hz2⟩ := info_parts inf_StringSS
  exact wpList_append_one (E := strsE) (ty := 51) hgd s x _ ho i0 _ _ Tryz.underlying25 hi hz0 hz1 hz2 rfl (by decide) (by decide) hv hown hn hx hc h1 hy hny hd hlen h

theorem appS_StringSS {w : World} {ops : Array Oper} {rest : List Oper} {o : Oper} {a : Act} {Q : Exit → Act → World → Prop} (hgd : o.guard = none) (s x : Operand)
    (ho : o.op = .call { callee := .builtin .append, args := #[s, x], argTypes := #[25, 25] }) {v : Value} {l : List _} {fp : List Nat} (hv : a.eval s = v) (hown : (sliceE strsE 51).ow w [v] l fp)
    {ys : List _} {css : List (List Value)} {fys : List (List Nat)} (hys : OwAll (strsE) w ys css fys) (hs : SrcS w (strsE).size (a.eval x) ys.length css.flatten) (hd : (fp ++ fys.flatten).Nodup) (hlen : l.length + ys.length ≤ 1000000000000)
    (h : ∀ v' w' fp', (sliceE strsE 51).ow w' [v'] (l ++ ys) fp' → fp'.Nodup → (∀ b, b ∈ fp' → b ∈ fp ∨ b ∈ fys.flatten ∨ w.heap.size ≤ b) → But fp w w' → wpList Tryz.prog ops Q rest (a.put o.dst v') w') : wpList Tryz.prog ops Q (o :: rest) a w := by
  obtain ⟨i0, hi, hz0, hz1, hz2⟩ := info_parts inf_StringSS
  exact wpList_append_enc (E := strsE) (ty := 51) hgd s x _ ho i0 _ _ Tryz.underlying25 hi hz0 hz1 hz2 rfl (by decide) hv hown hys hs hd (by simp only [maxLen]; omega) (by omega) h

theorem inf_Int64SSS : (Tryz.prog.info? 29).map (fun i => (i.zero, i.size, i.bytes)) = some (some (.slice none 0 0), 1, 24) := by kernel_rfl

theorem inf_MoveS : (Tryz.prog.info? 93).map (fun i => (i.zero, i.size, i.bytes)) = some (some (.agg #[.int .i64 0, .int .i64 0]), 2, 16) := by kernel_rfl

theorem app1_MoveS {w : World} {ops : Array Oper} {rest : List Oper} {o : Oper} {a : Act} {Q : Exit → Act → World → Prop} (hgd : o.guard = none) (s x : Operand)
    (ho : o.op = .call { callee := .builtin .append, args := #[s, x], argTypes := #[91, 91] }) {v : Value} {l : List _} {fp : List Nat} (hv : a.eval s = v) (hown : (sliceE moveE 93).ow w [v] l fp) (hn : fp.Nodup)
    {g c : Nat} (hx : a.eval x = .slice (some ⟨g, 0, none⟩) 1 c) {y : _} {cs : List Value} {fy : List Nat} (hc : ∀ j u, cs[j]? = some u → w.cell? ⟨g, j, none⟩ = some u) (h1 : ∀ u, u ∈ cs → u.oneCell' = true) (hy : (moveE).ow w cs y fy)
    (hny : fy.Nodup) (hd : ∀ b, b ∈ fy → b ∉ fp) (hlen : l.length ≤ 1000000000000)
    (h : ∀ v' w' fp', (sliceE moveE 93).ow w' [v'] (l ++ [y]) fp' → fp'.Nodup → (∀ b, b ∈ fp' → b ∈ fp ∨ b ∈ fy ∨ w.heap.size ≤ b) → But fp w w' → wpList Tryz.prog ops Q rest (a.put o.dst v') w') : wpList Tryz.prog ops Q (o :: rest) a w := by
  obtain ⟨i0, hi, hz0, hz1, hz2⟩ := info_parts inf_MoveS
  exact wpList_append_one (E := moveE) (ty := 93) hgd s x _ ho i0 _ _ Tryz.underlying91 hi hz0 hz1 hz2 rfl (by decide) (by decide) hv hown hn hx hc h1 hy hny hd hlen h

theorem appS_MoveS {w : World} {ops : Array Oper} {rest : List Oper} {o : Oper} {a : Act} {Q : Exit → Act → World → Prop} (hgd : o.guard = none) (s x : Operand)
    (ho : o.op = .call { callee := .builtin .append, args := #[s, x], argTypes := #[91, 91] }) {v : Value} {l : List _} {fp : List Nat} (hv : a.eval s = v) (hown : (sliceE moveE 93).ow w [v] l fp)
    {ys : List _} {css : List (List Value)} {fys : List (List Nat)} (hys : OwAll (moveE) w ys css fys) (hs : SrcS w (moveE).size (a.eval x) ys.length css.flatten) (hd : (fp ++ fys.flatten).Nodup) (hlen : l.length + ys.length ≤ 1000000000000)
    (h : ∀ v' w' fp', (sliceE moveE 93).ow w' [v'] (l ++ ys) fp' → fp'.Nodup → (∀ b, b ∈ fp' → b ∈ fp ∨ b ∈ fys.flatten ∨ w.heap.size ≤ b) → But fp w w' → wpList Tryz.prog ops Q rest (a.put o.dst v') w') : wpList Tryz.prog ops Q (o :: rest) a w := by
  obtain ⟨i0, hi, hz0, hz1, hz2⟩ := info_parts inf_MoveS
  exact wpList_append_enc (E := moveE) (ty := 93) hgd s x _ ho i0 _ _ Tryz.underlying91 hi hz0 hz1 hz2 rfl (by decide) hv hown hys hs hd (by simp only [maxLen]; omega) (by omega) h

theorem inf_MoveSS : (Tryz.prog.info? 91).map (fun i => (i.zero, i.size, i.bytes)) = some (some (.slice none 0 0), 1, 24) := by kernel_rfl

theorem app1_MoveSS {w : World} {ops : Array Oper} {rest : List Oper} {o : Oper} {a : Act} {Q : Exit → Act → World → Prop} (hgd : o.guard = none) (s x : Operand)
    (ho : o.op = .call { callee := .builtin .append, args := #[s, x], argTypes := #[34, 34] }) {v : Value} {l : List _} {fp : List Nat} (hv : a.eval s = v) (hown : (sliceE movesE 91).ow w [v] l fp) (hn : fp.Nodup)
    {g c : Nat} (hx : a.eval x = .slice (some ⟨g, 0, none⟩) 1 c) {y : _} {cs : List Value} {fy : List Nat} (hc : ∀ j u, cs[j]? = some u → w.cell? ⟨g, j, none⟩ = some u) (h1 : ∀ u, u ∈ cs → u.oneCell' = true) (hy : (movesE).ow w cs y fy)
    (hny : fy.Nodup) (hd : ∀ b, b ∈ fy → b ∉ fp) (hlen : l.length ≤ 1000000000000)
    (h : ∀ v' w' fp', (sliceE movesE 91).ow w' [v'] (l ++ [y]) fp' → fp'.Nodup → (∀ b, b ∈ fp' → b ∈ fp ∨ b ∈ fy ∨ w.heap.size ≤ b) → But fp w w' → wpList Tryz.prog ops Q rest (a.put o.dst v') w') : wpList Tryz.prog ops Q (o :: rest) a w := by
  obtain ⟨i0, hi, hz0, hz1, hz2⟩ := info_parts inf_MoveSS
  exact wpList_append_one (E := movesE) (ty := 91) hgd s x _ ho i0 _ _ Tryz.underlying34 hi hz0 hz1 hz2 rfl (by decide) (by decide) hv hown hn hx hc h1 hy hny hd hlen h

theorem appS_MoveSS {w : World} {ops : Array Oper} {rest : List Oper} {o : Oper} {a : Act} {Q : Exit → Act → World → Prop} (hgd : o.guard = none) (s x : Operand)
    (ho : o.op = .call { callee := .builtin .append, args := #[s, x], argTypes := #[34, 34] }) {v : Value} {l : List _} {fp : List Nat} (hv : a.eval s = v) (hown : (sliceE movesE 91).ow w [v] l fp)
    {ys : List _} {css : List (List Value)} {fys : List (List Nat)} (hys : OwAll (movesE) w ys css fys) (hs : SrcS w (movesE).size (a.eval x) ys.length css.flatten) (hd : (fp ++ fys.flatten).Nodup) (hlen : l.length + ys.length ≤ 1000000000000)
    (h : ∀ v' w' fp', (sliceE movesE 91).ow w' [v'] (l ++ ys) fp' → fp'.Nodup → (∀ b, b ∈ fp' → b ∈ fp ∨ b ∈ fys.flatten ∨ w.heap.size ≤ b) → But fp w w' → wpList Tryz.prog ops Q rest (a.put o.dst v') w') : wpList Tryz.prog ops Q (o :: rest) a w := by
  obtain ⟨i0, hi, hz0, hz1, hz2⟩ := info_parts inf_MoveSS
  exact wpList_append_enc (E := movesE) (ty := 91) hgd s x _ ho i0 _ _ Tryz.underlying34 hi hz0 hz1 hz2 rfl (by decide) hv hown hys hs hd (by simp only [maxLen]; omega) (by omega) h

end Go.Proofs.YtcifdkliiljmkaaGreatDoor
