/-
  The library's Repeat of one move, one to five times.
-/
import Derived.Test.YtfamhnogpcmbmaaGreatDoorPackB
import Derived.Test.YtfamhnogpcmbmaaGreatDoorPackA
import Derived.Deep.RegionHeld3
namespace Go.Proofs.YtfamhnogpcmbmaaGreatDoor
open Go.RowKit

/-- c moves in the making: n of them laid. -/
def repC (x : Move) (c n : Nat) : List Value := (List.replicate n x).flatMap cMove ++ List.replicate ((c - n) * 2) (.int .i64 0)

theorem repC_len (x : Move) (n : Nat) : ((List.replicate n x).flatMap cMove).length = n * 2 := by
  rw [flatMap_len cMove 2 (fun _ => rfl), List.length_replicate]

theorem repC_copy (x : Move) (c n m : Nat) (h : n + m ≤ c) : (repC x c n).take (n * 2) ++ (List.replicate m x).flatMap cMove ++ (repC x c n).drop (n * 2 + ((List.replicate m x).flatMap cMove).length) = repC x c (n + m) := by
  unfold repC
  rw [List.take_left' (repC_len x n), repC_len, ← List.drop_drop, List.drop_left' (repC_len x n), List.drop_replicate, ← List.replicate_append_replicate, List.flatMap_append]
  congr 2
  omega

theorem repC_src {w : World} {q : Nat} {ty : TypeId} {x : Move} {c n m : Nat} (A : Blk w q (repC x c n) ty) (h : m ≤ n) : ∀ j v, ((List.replicate m x).flatMap cMove)[j]? = some v → w.cell? ((⟨q, 0, none⟩ : Addr).add j) = some v := by
  intro j v hv
  rw [Addr.add_lit, Nat.zero_add]
  refine A.cell j ?_
  have e : repC x c n = (List.replicate m x).flatMap cMove ++ ((List.replicate (n - m) x).flatMap cMove ++ List.replicate ((c - n) * 2) (.int .i64 0)) := by
    unfold repC
    rw [← List.append_assoc, ← List.flatMap_append, List.replicate_append_replicate, show m + (n - m) = n from by omega]
  rw [e, List.getElem?_append_left (List.getElem?_eq_some_iff.1 hv).1]
  exact hv

theorem one_moves (x : Move) (m : Nat) : ∀ v, v ∈ (List.replicate m x).flatMap cMove → v.oneCell' = true := by
  intro v hv
  obtain ⟨y, _, hy⟩ := List.mem_flatMap.1 hv
  simp [cMove] at hy
  rcases hy with rfl | rfl <;> rfl

theorem blk_list (w : World) (l : List Value) (ty : TypeId) : Blk (w.alloc (.cells l.toArray ty)) w.heap.size l ty := Blk.new w l.toArray ty

theorem src_alloc {w : World} {a : Addr} {v : Value} (h : w.cell? a = some v) (o : Obj) : (w.alloc o).cell? a = some v := (((Below.refl w.heap.size w).alloc (Nat.le_refl _) o).cell (World.block_lt_of_cell? w _ h)).trans h

theorem src_move {w : World} {x : Move} {g o : Nat} (h0 : w.cell? ⟨g, o, none⟩ = some (.int .i64 x.to)) (h1 : w.cell? ⟨g, o + 1, none⟩ = some (.int .i64 x.dir)) : ∀ j v, (cMove x)[j]? = some v → w.cell? ((⟨g, o, none⟩ : Addr).add j) = some v := by
  intro j v hv
  rw [Addr.add_lit]
  match j with
  | 0 => have : Value.int .i64 x.to = v := by simpa [cMove] using hv
         subst this; exact h0
  | 1 => have : Value.int .i64 x.dir = v := by simpa [cMove] using hv
         subst this; exact h1
  | j + 2 => simp [cMove] at hv

theorem one_move (x : Move) : ∀ v, v ∈ cMove x → v.oneCell' = true := by
  intro v hv
  simp [cMove] at hv
  rcases hv with rfl | rfl <;> rfl

/-- A call that hands back a slice whose block is given. -/
def Block (cs : List Value) (ty : TypeId) (n : Nat) (w : World) (e : Ending) (w' : World) : Prop := ∃ q, e = .returned (.slice (some ⟨q, 0, none⟩) n n) ∧ Blk w' q cs ty ∧ w.heap.size ≤ q ∧ Below w.heap.size w w'

theorem Star.blocked {w0 w w' : World} {ps : List Ob} {cs : List Value} {ty : TypeId} {q : Nat} (S : Star w0 w ps) (h : Blk w' q cs ty) (lo : w.heap.size ≤ q) (hb : Below w.heap.size w w') : Star w0 w' (oB q cs ty :: ps) :=
  S.push (f := [q]) hb ⟨h, rfl⟩ (by simp) (fun b hb => by have e : b = q := by simpa using hb
                                                          omega) (fun b hb => by have e : b = q := by simpa using hb
                                                                                 have := h.lt; omega)

end Go.Proofs.YtfamhnogpcmbmaaGreatDoor
