/-
  Plain lemmas: a region that draws its order and whose callees leave all memory that was there as it was (they may make new blocks): one walk in the order of the text serves every order.
-/
import Derived.WalkKit
import Derived.Deep.QuietTactic
import Derived.BigQuiet
import Derived.Deep.RegionWith
import Derived.Lib.Hide
import Derived.WalkSmall
import Derived.StillTailTactics
import Derived.Deep.RegionHeld3
namespace Go.Proofs.YtbiagkbjhdidjaaDoor
open Go.RowKit

/-- w, with what u has beyond it. -/
def over (w u : World) : World := { heap := w.heap ++ u.heap.extract w.heap.size u.heap.size, tape := w.tape, drawn := u.drawn, os := w.os, output := w.output }

theorem below_over (w u : World) : Below w.heap.size w (over w u) :=
  ⟨rfl, rfl, rfl, by simp [over], fun k hk => by simp [over, Array.getElem?_append, hk]⟩

theorem over_eq {w u : World} (h : Below w.heap.size w u) : over w u = u := by
  have hh : w.heap ++ u.heap.extract w.heap.size u.heap.size = u.heap := by
    apply Array.ext_getElem?
    intro i
    rw [Array.getElem?_append]
    split
    · rename_i hi; exact (h.block i hi).symm
    · rename_i hi
      have hs := h.size
      rw [Array.getElem?_extract]
      split
      · rw [show w.heap.size + (i - w.heap.size) = i from by omega]
      · rename_i h2
        rw [Array.getElem?_eq_none (by omega)]
  obtain ⟨heap, tape, drawn, os, output⟩ := u
  unfold over
  simp only [World.mk.injEq, true_and]
  exact ⟨hh, h.tape.symm, h.os.symm, h.output.symm⟩

theorem wp_region_over {P : Program} {id : Nat} {Q : Exit → Act → World → Prop} {a : Act} {w : World} {l : List Oper} (hm : P.follows .mixedOrders = true) (hB : Region.lexB .any l.toArray = true)
    (h : wpQuiet P l.toArray (fun w' => ∃ u, w' = over w u) (fun a' => ∀ w', Below w.heap.size w w' → Q .normal a' w') l a) : (Code.region id l.toArray true).wp P Q a w := by
  refine wp_region_quiet (C := fun w' => ∃ u, w' = over w u) hm hB ⟨_, (over_eq (⟨rfl, rfl, rfl, Nat.le_refl _, fun _ _ => rfl⟩ : Below w.heap.size w { w with drawn := w.drawn + 1 })).symm⟩ ?_
  have hq : (fun a' => ∀ w', Below w.heap.size w w' → Q .normal a' w') = (fun a' => ∀ w', (∃ u, w' = over w u) → Q .normal a' w') := by
    funext a'
    apply propext
    constructor
    · rintro h w' ⟨u, rfl⟩; exact h _ (below_over w u)
    · intro h w' hb; exact h w' ⟨w', (over_eq hb).symm⟩
  rw [hq] at h
  simpa using h

/-- A callee that leaves all that was there as it was, met inside such a region. -/
theorem calls_over {P : Program} {f : FuncId} {args : Array Value} {w n : World} {v : Value}
    (h : Calls P f args (over w n) fun e w' => e = .returned v ∧ Below (over w n).heap.size (over w n) w') : Calls P f args (over w n) fun e w'' => e = .returned v ∧ ∃ m, w'' = over w m :=
  h.mono fun _ w' ⟨he, hb⟩ => ⟨he, w', (over_eq ((below_over w n).trans (hb.mono (below_over w n).size))).symm⟩

theorem calls_same {P : Program} {f : FuncId} {args : Array Value} {w n : World} {v : Value}
    (h : Calls P f args (over w n) fun e w' => e = .returned v ∧ over w n = w') : Calls P f args (over w n) fun e w'' => e = .returned v ∧ ∃ m, w'' = over w m :=
  h.mono fun _ w' ⟨he, hb⟩ => ⟨he, n, hb.symm⟩

/-- Memory that was there reads as it did. -/
theorem cell_over (w : World) : ∀ (u : World) (b o : Nat), b < w.heap.size → (over w u).cell? ⟨b, o, none⟩ = w.cell? ⟨b, o, none⟩ :=
  fun u b o hb => (below_over w u).cell (p := ⟨b, o, none⟩) hb

end Go.Proofs.YtbiagkbjhdidjaaDoor
