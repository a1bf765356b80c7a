/-
  A builder of the call's own, beside other memory of its own.
-/
import Derived.Test.YtjochoghmpcgdaaDoorShelfBldK
import Derived.Test.YtjochoghmpcgdaaDoorShelfLenK
import Derived.Test.YtjochoghmpcgdaaDoorPackB
import Derived.Shelf.Strings.BuilderK
namespace Go.Proofs.YtjochoghmpcgdaaDoor
open Go.RowKit

abbrev tBld : TypeId := 94
abbrev tU8 : TypeId := 5

/-- A builder in block b (from block B on) that holds these bytes. -/
def BldK (B b : Nat) (l : List UInt8) (w : World) : Prop := Lib.IsBuilderF 94 5 B b (Lib.byteCells l) w

theorem BldK.new (w : World) : BldK w.heap.size w.heap.size [] (w.alloc (.cells #[.pointer none, .slice none 0 0] 94)) := Lib.IsBuilderF.of (Lib.fresh_isBuilder _ _ w)

/-- What a call on the builder leaves of all else. -/
structure CalmB (b : Nat) (w w' : World) : Prop where
  kept : ∀ (k : Nat) (cs : Array Value) (ty : TypeId) (fz : Nat × Nat), w.heap[k]? = some (Obj.cells cs ty fz) → ty ≠ 94 → ty ≠ 5 → w'.heap[k]? = some (Obj.cells cs ty fz)

theorem calmB_of {B b : Nat} {l : List UInt8} {w w' : World} (h : BldK B b l w) (hk : Lib.OthersKept 5 (some b) w w') : CalmB b w w' := ⟨fun k cs ty fz h1 h2 h3 => by
  refine hk k _ h1 (fun e => ?_) (fun c fz' e => h3 (by cases e; rfl))
  cases e
  rcases h with h | h
  · obtain ⟨_, v, hb, _⟩ := h
    rw [hb] at h1
    cases h1
    exact h2 rfl
  · obtain ⟨_, v, hb, _⟩ := h
    rw [hb] at h1
    cases h1
    exact h2 rfl⟩

theorem writeK_any (B b : Nat) (l : List UInt8) (s : ByteArray) (w : World) (h : BldK B b l w) (hlen : l.length + s.size ≤ 1000000) (hB : B ≤ w.heap.size) :
    Calls Tryd.prog 52 #[.pointer (some ⟨b, 0, none⟩), .string s] w (fun e w' => e = .returned (.tuple #[.int .i64 s.size, .nilIface]) ∧ BldK B b (l ++ s.data.toList) w' ∧ Below B w w' ∧ CalmB b w w') := by
  refine (Any.Builder_WriteString_k Tryd.lays166 Tryd.bldX B b (Lib.byteCells l) s w h (by rw [Lib.byteCells_length]; omega) hB).mono ?_
  rintro e w' ⟨rfl, h1, h2, h3⟩
  refine ⟨rfl, .inr ?_, h2, calmB_of h h3⟩
  rw [Lib.byteCells_append, ← Lib.strCells_eq]
  exact h1

theorem lenK_any (B b : Nat) (l : List UInt8) (w : World) (h : BldK B b l w) :
    Calls Tryd.prog 53 #[.pointer (some ⟨b, 0, none⟩)] w (fun e w' => e = .returned (.int .i64 l.length) ∧ w' = w) := by
  refine (Any.Builder_Len_f Tryd.lays170 B b (Lib.byteCells l) w h).mono ?_
  rintro e w' ⟨rfl, rfl⟩
  rw [Lib.byteCells_length]
  exact ⟨rfl, rfl⟩

theorem stringK_any (B b : Nat) (l : List UInt8) (w : World) (h : BldK B b l w) (hB : B ≤ w.heap.size) :
    Calls Tryd.prog 54 #[.pointer (some ⟨b, 0, none⟩)] w (fun e w' => e = .returned (.string ⟨l.toArray⟩) ∧ Below B w w' ∧ CalmB b w w') := by
  refine (Any.Builder_String_any_k Tryd.lays169 Tryd.bldX9 B b l w h hB).mono ?_
  rintro e w' ⟨rfl, -, h2, h3⟩
  exact ⟨rfl, h2, calmB_of h h3⟩

/-- Nothing but blocks of other types. -/
def Ob.Far (P : Ob) : Prop := ∀ w f, P.holds w f → ∀ k, k ∈ f → ∃ (cs : Array Value) (ty : TypeId) (fz : Nat × Nat), w.heap[k]? = some (Obj.cells cs ty fz) ∧ ty ≠ 94 ∧ ty ≠ 5

theorem Star.calm {w0 w w' : World} {ps : List Ob} {b : Nat} (S : Star w0 w ps) (hf : ∀ P, P ∈ ps → P.Far) (hb : Below w0.heap.size w w') (hc : CalmB b w w') : Star w0 w' ps := by
  obtain ⟨B, fp, hh, d⟩ := S
  refine ⟨B.trans hb, fp, fun i P hP => ?_, d⟩
  obtain ⟨h1, h2, h3⟩ := hh i P hP
  refine ⟨P.frame (fun k hk => ?_) h1, h2, fun k hk => ⟨(h3 k hk).1, Nat.lt_of_lt_of_le (h3 k hk).2 hb.size⟩⟩
  obtain ⟨cs, ty, fz, e1, e2, e3⟩ := hf P (List.mem_of_getElem? hP) w _ h1 k hk
  rw [e1]
  exact hc.kept k cs ty fz e1 e2 e3

theorem far_oB {g : Nat} {cs : List Value} {ty : TypeId} (h1 : ty ≠ 94) (h2 : ty ≠ 5) : (oB g cs ty).Far := by
  intro w f hf k hk
  rw [hf.2] at hk
  rw [List.mem_singleton.1 hk]
  exact ⟨_, _, _, hf.1, h1, h2⟩

theorem far_flat {α : Type} {E : Enc α} {ty : TypeId} {v : Value} {l : List α} (hfl : ∀ w cs x f, E.ow w cs x f → f = []) (h1 : ty ≠ 94) (h2 : ty ≠ 5) : (oE (sliceE E ty) [v] l).Far := by
  intro w f hf k hk
  obtain ⟨v', xss, fps, he, f1, f2, rfl⟩ := hf
  simp only [List.cons.injEq, and_true] at he
  subst he
  obtain ⟨hx, h3⟩ := f2
  have hf0 := f1.flat_fp hfl
  rw [hf0, List.append_nil] at hk
  rcases h3 with ⟨h3, -⟩ | ⟨g', cap, cur, e3, hg, hh, -⟩
  · rw [h3] at hk; simp [Value.ownBlock] at hk
  · rw [e3] at hk
    simp [Value.ownBlock] at hk
    rw [hk]
    exact ⟨_, _, _, hh, h1, h2⟩

theorem flat_pl (w : World) (cs : List Value) (x : Pl) (f : List Nat) (h : plE.ow w cs x f) : f = [] := by
  obtain ⟨c1, c2, f1, f2, rfl, rfl, ⟨-, rfl⟩, -, rfl⟩ := h
  rfl

end Go.Proofs.YtjochoghmpcgdaaDoor
