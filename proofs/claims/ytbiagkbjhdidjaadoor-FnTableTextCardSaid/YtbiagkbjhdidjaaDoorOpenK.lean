/-
  Plain lemmas: what the form's own reading of an argument ('DataW.trod') gives: the argument can be read as a value of a Lean type ('Enc.rd'). No program is named here.
-/
import Derived.Test.YtbiagkbjhdidjaaDoorEncK
namespace Go.Proofs.YtbiagkbjhdidjaaDoor
open Go.RowKit Go.ChangeShapes Go.WideShapes

/-- Whatever the form reads at type 't' is a value of E's type. -/
def Opens (P : Program) {α : Type} (E : Enc α) (t : TypeId) : Prop :=
  ∀ (H : Type) (enc : TypeId × Value → H) (w : World) (fuel : Nat) (cs : List Value) (x : DataW H × List MemPlace),
    DataW.trod enc P w 0 (fun _ => true) true fuel t cs = some x → ∃ a, E.rd w w.heap.size cs a

section
variable {P : Program} {t : TypeId}

theorem wf_bounds {a : Int} (h : (Lit.int .i64 a).wf = true) : -9223372036854775808 ≤ a ∧ a ≤ 9223372036854775807 := by
  simpa [Lit.wf, IntKind.min, IntKind.max, IntKind.bits, IntKind.signed] using h

theorem opens_int (h : P.underlying t = some (.int .i64)) : Opens P intE t := by
  intro H enc w fuel cs x hx
  obtain ⟨n, rfl, rfl, hw⟩ := DataW.trod_int h hx
  exact ⟨n, rfl, wf_bounds hw⟩

theorem opens_bool (h : P.underlying t = some .bool) : Opens P boolE t := by
  intro H enc w fuel cs x hx
  obtain ⟨n, rfl, rfl⟩ := DataW.trod_bool h hx
  exact ⟨n, rfl⟩

theorem opens_str (h : P.underlying t = some .string) : Opens P strE t := by
  intro H enc w fuel cs x hx
  obtain ⟨n, rfl, rfl, hs⟩ := DataW.trod_string h hx
  exact ⟨n, rfl, hs⟩

theorem opens_via {α β : Type} {E : Enc β} {f : α → β} (g : β → α) (hg : ∀ b, f (g b) = b) (h : Opens P E t) : Opens P (viaE E f) t := by
  intro H enc w fuel cs x hx
  obtain ⟨b, hb⟩ := h H enc w fuel cs x hx
  exact ⟨g b, by show E.rd _ _ _ (f (g b)); rw [hg]; exact hb⟩

theorem cells_get : ∀ {w : World} {a : Addr} {n : Nat} {cs : List Value}, w.cells? 0 a n = some cs → cs.length = n ∧ ∀ j v, cs[j]? = some v → w.cell? (a.add j) = some v := by
  intro w a n cs h
  unfold World.cells? at h
  rw [if_pos (Nat.zero_le _)] at h
  refine ⟨by simpa using mapM_some_length h, fun j v hj => ?_⟩
  have hj' : j < n := by have := (List.getElem?_eq_some_iff.1 hj).1; have h2 : cs.length = n := (by simpa using mapM_some_length h); omega
  have := mapM_some_get h j j (by simp [hj'])
  rw [this, hj]

theorem opens_slice {α : Type} {E : Enc α} {e : TypeId} (h : P.underlying t = some (.slice e)) (he : Opens P E e) (hs : P.cellsOf e = E.size) (hpos : 0 < E.size) : Opens P (sliceE E e) t := by
  intro H enc w fuel cs x hx
  rcases Deep.open_slice h hx with ⟨rfl, _⟩ | ⟨a, len, cap, m, n, D, Pl, rfl, _, hl, hm, hmm, _, hel⟩
  · exact ⟨[], none, 0, rfl, Nat.le_refl _, Nat.zero_le _, fun _ => rfl, fun i x hx => by simp at hx⟩
  · have hcap : m = cap := by simpa using hmm
    have hA : ∀ i, i < len → ∃ p : List Value × α, w.cells? 0 (a.add (i * E.size)) E.size = some p.1 ∧ E.rd w w.heap.size p.1 p.2 := by
      intro i hi
      obtain ⟨cs', h1, h2⟩ := hel i (by omega)
      obtain ⟨y, hy⟩ := he _ _ _ _ _ _ h2
      rw [hs] at h1
      exact ⟨(cs', y), h1, hy⟩
    by_cases h0 : len = 0
    · subst h0
      exact ⟨[], some a, cap, rfl, hl, hm, (fun h => by cases h), fun i x hx => by simp at hx⟩
    · obtain ⟨⟨c0, y0⟩, _⟩ := hA 0 (by omega)
      haveI : Inhabited (List Value × α) := ⟨(c0, y0)⟩
      obtain ⟨f, hf⟩ := Deep.choose_lt hA
      refine ⟨(List.range len).map fun i => (f i).2, some a, cap, by simp, by simpa using hl, hm, (fun h => by cases h), fun i x hx => ?_⟩
      have hi : i < len := by have := (List.getElem?_eq_some_iff.1 hx).1; simpa using this
      have hxe : x = (f i).2 := by
        rw [List.getElem?_map, List.getElem?_range hi] at hx
        simpa using hx.symm
      subst hxe
      obtain ⟨h1, h2⟩ := hf i hi
      obtain ⟨hlen, hget⟩ := cells_get h1
      have hsp : ∃ b o, a = ⟨b, o, none⟩ ∧ b < w.heap.size := by
        have hc0 : ∃ v, (f 0).1[0]? = some v := by
          obtain ⟨h1', _⟩ := hf 0 (by omega)
          have := (cells_get h1').1
          exact ⟨_, List.getElem?_eq_getElem (by omega)⟩
        obtain ⟨v, hv⟩ := hc0
        have := (cells_get (hf 0 (by omega)).1).2 0 v hv
        simp only [Nat.zero_mul, Addr.add, if_true] at this
        have h3 := World.cell?_spot this
        have h4 := World.block_lt_of_cell? w _ this
        obtain ⟨b, o, s⟩ := a
        exact ⟨b, o, by simpa using h3, h4⟩
      obtain ⟨b, o, rfl, hb⟩ := hsp
      refine ⟨b, o, (f i).1, rfl, hb, h2, fun j v hv => ?_⟩
      have := hget j v hv
      rw [Deep.add_add] at this
      simpa [Addr.add_lit] using this

/-- The fields of a struct, one behind the other. -/
inductive OpensF (P : Program) : {α : Type} → List Field → Nat → Enc α → Prop
  | last {α : Type} {E : Enc α} {f : Field} {off : Nat} : Opens P E f.type → f.offset = off → P.cellsOf f.type = E.size → OpensF P [f] off E
  | cons {α β : Type} {E : Enc α} {F : Enc β} {f : Field} {fs : List Field} {off : Nat} : Opens P E f.type → f.offset = off → P.cellsOf f.type = E.size → OpensF P fs (off + E.size) F →
      OpensF P (f :: fs) off (pairE E F)

theorem OpensF.rd {α : Type} {fs : List Field} {off : Nat} {E : Enc α} (h : OpensF P fs off E) {H : Type} {enc : TypeId × Value → H} {w : World} {n : Nat} {cs : List Value}
    (hf : ∀ f, f ∈ fs → ∃ x, DataW.trod enc P w 0 (fun _ => true) true n f.type ((cs.drop f.offset).take (P.cellsOf f.type)) = some x) : ∃ a, E.rd w w.heap.size ((cs.drop off).take E.size) a := by
  induction h with
  | @last α E f off h1 h2 h3 =>
    obtain ⟨x, hx⟩ := hf f (by simp)
    rw [h2, h3] at hx
    exact h1 _ _ _ _ _ _ hx
  | @cons α β E F f fs off h1 h2 h3 h4 ih =>
    obtain ⟨x, hx⟩ := hf f (by simp)
    rw [h2, h3] at hx
    obtain ⟨a, ha⟩ := h1 _ _ _ _ _ _ hx
    obtain ⟨b, hb⟩ := ih (fun g hg => hf g (by simp [hg]))
    refine ⟨(a, b), _, _, ?_, ha, hb⟩
    show List.take (E.size + F.size) _ = _
    rw [List.take_add, List.drop_drop]

theorem opens_struct {α : Type} {E : Enc α} {fs : Array Field} (h : P.underlying t = some (.struct fs)) (hs : P.cellsOf t = E.size) (hf : OpensF P fs.toList 0 E) : Opens P E t := by
  intro H enc w fuel cs x hx
  obtain ⟨xs, n, _, rfl, hl, hlen, hg⟩ := DataW.trod_struct h hx
  obtain ⟨a, ha⟩ := hf.rd (enc := enc) (w := w) (n := n) (cs := cs) (fun f hm => by
    obtain ⟨i, hi, he⟩ := List.getElem_of_mem hm
    have h1 := hg i f (by simp [← he])
    rw [h1]
    have : i < xs.length := by rw [hlen]; simpa using hi
    exact ⟨_, List.getElem?_eq_getElem this⟩)
  refine ⟨a, ?_⟩
  rw [List.drop_zero, ← hs, ← hl, List.take_length] at ha
  exact ha
end

end Go.Proofs.YtbiagkbjhdidjaaDoor
