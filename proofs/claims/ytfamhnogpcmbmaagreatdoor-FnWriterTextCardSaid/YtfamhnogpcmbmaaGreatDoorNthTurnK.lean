/-
  NthLastTurner: what the program and the reference answer (written by a program of this claim's own, gen_nthturn.py).
-/
import Derived.Test.YtfamhnogpcmbmaaGreatDoorNthK
import Derived.Test.YtfamhnogpcmbmaaGreatDoorRepeatK
import Derived.Test.YtfamhnogpcmbmaaGreatDoorPackB
import Derived.Deep.DeepCutAuto
namespace Go.Proofs.YtfamhnogpcmbmaaGreatDoor
open Go.RowKit

def nthMove (l m s a : Nat) : Move :=
  if s = 0 then (if a = l + 1 then ⟨1, -1⟩ else ⟨0, 1⟩) else if s < m then (if a < l then ⟨(s : Int) + 1, -1⟩ else ⟨-2, 0⟩) else (if a = 0 then ⟨-1, 0⟩ else ⟨-2, 0⟩)
def nthTRow (l m s : Nat) : List Move := (List.range (l + 2)).map (nthMove l m s)
def nthTurn (l m : Nat) : List (List Move) := (List.range (m + 1)).map (nthTRow l m)

def nthLastTurner (letters n : Int) : Turner × Int := if nthOk letters n then (⟨letters, 0, nthTurn letters.toNat n.toNat⟩, 0) else (default, 2)

theorem cnt_nthLastTurner (letters n : Int) : turnM.cnt (nthLastTurner letters n).1 ≤ 4611686018427387000 := by
  unfold nthLastTurner
  split
  · rename_i h
    unfold nthOk at h
    rw [Bool.and_eq_true] at h
    have h1 := within_true.1 h.1
    have h2 := within_true.1 h.2
    have := sum_map_le movesM.cnt 10 (nthTurn letters.toNat n.toNat) (fun x hx => by
      obtain ⟨a, _, rfl⟩ := List.mem_map.1 hx
      show 2 * (nthTRow letters.toNat n.toNat a).length ≤ 10
      unfold nthTRow
      simp
      omega)
    have hlen : (nthTurn letters.toNat n.toNat).length = n.toNat + 1 := by simp [nthTurn]
    rw [hlen] at this
    show cntL movesM (nthTurn letters.toNat n.toNat) ≤ _
    have e : cntL movesM (nthTurn letters.toNat n.toNat) ≤ (n.toNat + 1) * 10 := this
    omega
  · decide

theorem set_move {w0 w : World} {ps : List Ob} {q : Nat} {ty : TypeId} {l : List Move} (S : Star w0 w (oB q (l.flatMap cMove) ty :: ps)) (k : Nat) (hk : k < l.length) (x : Move) :
    Star w0 ((w.setCell ⟨q, k * 2, none⟩ (.int .i64 x.to)).setCell ⟨q, k * 2 + 1, none⟩ (.int .i64 x.dir)) (oB q ((l.set k x).flatMap cMove) ty :: ps) := by
  have S1 := (S.set (k * 2) (.int .i64 x.to)).set (k * 2 + 1) (.int .i64 x.dir)
  have hg : l[k]?.getD default = l[k] := by simp [List.getElem?_eq_getElem hk]
  have e1 := flatMap_set default cMove 2 (fun _ => rfl) l k 0 (.int .i64 x.to) ⟨x.to, (l[k]?.getD default).dir⟩ hk (by omega) rfl
  have e2 := flatMap_set default cMove 2 (fun _ => rfl) (l.set k ⟨x.to, (l[k]?.getD default).dir⟩) k 1 (.int .i64 x.dir) x (by simpa using hk) (by omega) (by simp [List.getElem?_set, hk, cMove])
  rw [Nat.add_zero] at e1
  rw [e1, e2, List.set_set] at S1
  exact S1

theorem move_cells {w : World} {q : Nat} {ty : TypeId} {l : List Move} (A : Blk w q (l.flatMap cMove) ty) (k : Nat) (hk : k < l.length) : w.cell? ⟨q, k * 2, none⟩ = some (.int .i64 (l[k]?.getD default).to) ∧ w.cell? ⟨q, k * 2 + 1, none⟩ = some (.int .i64 (l[k]?.getD default).dir) := by
  have e0 := flatMap_get default cMove 2 (fun _ => rfl) l k 0 hk (by omega)
  have e1 := flatMap_get default cMove 2 (fun _ => rfl) l k 1 hk (by omega)
  exact ⟨A.cell _ e0, A.cell _ e1⟩

theorem range_set {α : Type} (f : Nat → α) (n k : Nat) (x : α) : ((List.range n).map f).set k x = (List.range n).map (fun a => if a = k then x else f a) := by
  apply List.ext_getElem (by simp)
  intro i h1 h2
  simp [List.getElem_set]
  by_cases h : k = i
  · subst h; simp
  · rw [if_neg h, if_neg (fun e => h e.symm)]

theorem rep_range {α : Type} (n : Nat) (x : α) : List.replicate n x = (List.range n).map fun _ => x := by
  apply List.ext_getElem (by simp)
  intro i h1 h2
  simp

theorem range_congr {α : Type} (f g : Nat → α) (n : Nat) (h : ∀ a, a < n → f a = g a) : (List.range n).map f = (List.range n).map g :=
  List.map_congr_left fun a ha => h a (List.mem_range.1 ha)

theorem nthT_in (l m s : Nat) (hl : l ≤ 3) (hs : s ≤ 8) (w : World) : ∀ x, x ∈ nthTRow l m s → moveE.ow w (cMove x) x [] := by
  intro x hx
  obtain ⟨a, _, rfl⟩ := List.mem_map.1 hx
  refine ow_moveE ?_
  unfold nthMove bdMove
  split <;> split <;> (try split) <;> exact ⟨⟨by simp; try omega, by simp; try omega⟩, by simp, by simp⟩

end Go.Proofs.YtfamhnogpcmbmaaGreatDoor
