/-
  Contracts of the laws' own helpers at one slice type (written by a program of this claim's own, gen_leaf.py).
-/
import Derived.Test.YtcifdkliiljmkaaGreatDoorRows
import Derived.Test.YtcifdkliiljmkaaGreatDoorPackA
import Derived.Test.YtcifdkliiljmkaaGreatDoorPackB
namespace Go.Proofs.YtcifdkliiljmkaaGreatDoor
open Go.RowKit

set_option maxHeartbeats 400000 in
theorem markInt64S_any (v : Value) (l : List Int) (fp : List Nat) (k0 : Int) (w : World) (h : intsE.ow w [v] l fp) (h0 : 0 ≤ k0) (h1 : k0 + l.length ≤ 4611686018427387904) :
    Calls Tryz.prog 74 #[v, .int .i64 k0] w (Marks intsE intsM [v] l fp k0 w) := by
  obtain ⟨n, hn⟩ : ∃ n, n = l.length := ⟨_, rfl⟩
  obtain ⟨rfl, hO, hE⟩ := ow_flat_inv (E := intE) (Value.int .i64) rfl (fun _ _ _ _ h => ⟨h.1.1, h.2⟩) h
  rw [← hn] at hO h1
  clear h
  have Hn := Lib.hid hn; clear hn
  rcases hO.2 with ⟨rfl, h00⟩ | ⟨g, cap, cur, rfl, -, -, hnc, hcm, -⟩
  · have hl0 := Lib.hid (List.eq_nil_of_length_eq_zero (by rw [← Hn.out]; exact h00))
    subst h00
    have HO := Lib.hid hO; clear hO
    go_enter Tryz.func74, Tryz.ntmps74
    go_wp2
    go_loop [1, 5] (fun k i => i = .int .i64 0 ∧ k = .int .i64 k0) (fun _ _ => 0)
    case atStart => exact ⟨rfl, rfl⟩
    case round =>
      obtain ⟨rfl, rfl⟩ := hrel
      go_wp2
      go_ret
      have e := hl0.out
      subst e
      exact marks_nil (ow_flat (Value.int .i64) rfl (fun x hx => by cases hx) HO.out) (fun i hi => absurd hi (by simp)) rfl
  · have HE := Lib.hid hE; clear hE
    simp only [maxLen] at hcm
    go_enter Tryz.func74, Tryz.ntmps74
    go_wp2
    go_loopw [1, 5] (fun k i wr => ∃ j : Nat, ∃ l' : List Int, j ≤ n ∧ i = .int .i64 j ∧ k = .int .i64 (k0 + j) ∧ But [g] w wr ∧ Hid (l'.length = n) ∧ wr.ownsRow 0 2 1 (.slice (some ⟨g, 0, none⟩) n cap) n (l'.map (Value.int .i64)) ∧ Hid (∀ i, i < j → l'[i]?.getD 0 = k0 + i)) (fun _ i _ => n - (intOf i).toNat)
    case atStart => exact ⟨0, l, by omega, rfl, by simp, But.refl _ _, Lib.hid Hn.out.symm, hO, Lib.hid (fun i hi => absurd hi (by omega))⟩
    case round =>
      obtain ⟨j, l', hj, rfl, rfl, hB, HL, hO', HJ⟩ := hrel
      by_cases hlt : j < n
      · have c1 := hO'.cellAt j (by omega)
        have c2 : wr.cell? ⟨g, j, none⟩ = some (Value.int .i64 (l'[j]?.getD 0)) := by
          rw [c1, List.getElem?_map, get_some 0 (by rw [HL.out]; exact hlt)]; rfl
        have c3 := hO'.frozenAt j
        have HS := Lib.hid ((hO'.stored j (Value.int .i64 (k0 + j))).1)
        clear c1 hO'
        generalize l'[j]?.getD 0 = x0 at c2
        go_wp2
        go_roundw
        case rel =>
          refine ⟨j + 1, l'.set j (k0 + j), by omega, by go_num, by go_num, hB.setCell (by simp) _, Lib.hid (by rw [List.length_set]; exact HL.out), by rw [List.map_set]; exact HS.out, Lib.hid (fun i hi => ?_)⟩
          by_cases e : i = j
          · subst e; rw [List.getElem?_set_self (by rw [HL.out]; exact hlt)]; rfl
          · rw [List.getElem?_set_ne (fun e' => e e'.symm)]; exact HJ.out i (by omega)
        case measure => simp [intOf]; omega
      · obtain rfl : j = n := by omega
        go_wp2
        go_ret
        refine ⟨l', by rw [show intsM.cnt l = l.length from rfl, ← Hn.out]; rfl, ?_, fun i hi => HJ.out i (by rw [← HL.out]; exact hi), by show l'.length = l.length; rw [HL.out, Hn.out], hB⟩
        have hE' := HE.out
        refine ow_flat (Value.int .i64) rfl (fun x hx => ?_) (by rw [HL.out]; exact hO')
        obtain ⟨i, hi, rfl⟩ := List.getElem_of_mem hx
        have hi' := HJ.out i (by rw [← HL.out]; exact hi)
        rw [List.getElem?_eq_getElem hi] at hi'
        simp only [Option.getD_some] at hi'
        rw [hi']
        exact ⟨⟨rfl, by omega, by have := HL.out; omega⟩, rfl⟩

end Go.Proofs.YtcifdkliiljmkaaGreatDoor
