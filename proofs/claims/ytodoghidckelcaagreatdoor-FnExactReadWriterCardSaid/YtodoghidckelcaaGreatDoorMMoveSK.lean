/-
  Contracts of the laws' own helpers at one slice type (written by a program of this claim's own, gen_leaf.py).
-/
import Derived.Test.YtodoghidckelcaaGreatDoorPackB
import Derived.Test.YtodoghidckelcaaGreatDoorMarksK
namespace Go.Proofs.YtodoghidckelcaaGreatDoor
open Go.RowKit

set_option maxHeartbeats 1000000 in
theorem markMoveS_any (v : Value) (l : List Move) (fp : List Nat) (k0 : Int) (w : World) (h : movesE.ow w [v] l fp) (h0 : 0 ≤ k0) (h1 : k0 + movesM.cnt l ≤ 4611686018427387904) :
    Calls Tryz.prog 68 #[v, .int .i64 k0] w (Marks movesE movesM [v] l fp k0 w) := by
  have h1 : k0 + 2 * (l.length : Int) ≤ 4611686018427387904 := by have : movesM.cnt l = 2 * l.length := rfl; omega
  obtain ⟨n, hn⟩ : ∃ n, n = l.length := ⟨_, rfl⟩
  obtain ⟨rfl, hO⟩ := ow_flats_inv (E := moveE) cMove (fun _ _ _ _ h => ⟨(ow_moveE_inv h).1, (ow_moveE_inv h).2.1⟩) h
  rw [← hn] at hO h1
  clear h
  have Hn := Lib.hid hn; clear hn
  rcases hO.2 with ⟨rfl, h00⟩ | ⟨g, cap, cur, rfl, -, -, hnc, hcm, -⟩
  · have hl0 := Lib.hid (List.eq_nil_of_length_eq_zero (by rw [← Hn.out]; exact h00))
    subst h00
    have HO := Lib.hid hO; clear hO
    go_enter Tryz.func68, Tryz.ntmps68
    go_wp2
    go_loop [1, 5] (fun k i => i = .int .i64 0 ∧ k = .int .i64 k0) (fun _ _ => 0)
    case atStart => exact ⟨rfl, rfl⟩
    case round =>
      obtain ⟨rfl, rfl⟩ := hrel
      go_wp2
      go_ret
      have e := hl0.out
      subst e
      exact marks_nil (ow_flats cMove (fun x hx => by cases hx) HO.out) (fun i hi => absurd hi (by simp)) rfl
  · simp only [maxLen] at hcm
    have hOs : w.ownsRow 0 54 2 (.slice (some ⟨g, 0, none⟩) n cap) n (l.flatMap cMove) := hO
    clear hO
    go_enter Tryz.func68, Tryz.ntmps68
    go_wp2
    go_loopw [1, 5] (fun k i wr => ∃ j : Nat, ∃ l' : List Move, j ≤ n ∧ i = .int .i64 j ∧ k = .int .i64 (k0 + 2 * (j : Int)) ∧ But [g] w wr ∧ Hid (l'.length = n) ∧ wr.ownsRow 0 54 2 (.slice (some ⟨g, 0, none⟩) n cap) n (l'.flatMap cMove) ∧ Hid (∀ i, i < j → l'[i]?.getD default = ⟨k0 + 2 * (i : Int), k0 + 2 * (i : Int) + 1⟩)) (fun _ i _ => n - (intOf i).toNat)
    case atStart => exact ⟨0, l, by omega, rfl, by simp, But.refl _ _, Lib.hid Hn.out.symm, hOs, Lib.hid (fun i hi => absurd hi (by omega))⟩
    case round =>
      obtain ⟨j, l', hj, rfl, rfl, hB, HL, hO', HJ⟩ := hrel
      by_cases hlt : j < n
      · have jn : (j : Int) < n := by omega
        have z0 : wr.cell? ⟨g, j * 2, none⟩ = some (.int .i64 (l'[j]?.getD default).to) := by
          rw [hO'.cellAt (j * 2) (by omega)]; have := flatMap_get default cMove 2 (fun _ => rfl) l' j 0 (by rw [HL.out]; exact hlt) (by omega); rw [show j * 2 = j * 2 + 0 from rfl, this]; rfl
        have z1 : wr.cell? ⟨g, j * 2 + 1, none⟩ = some (.int .i64 (l'[j]?.getD default).dir) := by
          rw [hO'.cellAt (j * 2 + 1) (by omega)]; have := flatMap_get default cMove 2 (fun _ => rfl) l' j 1 (by rw [HL.out]; exact hlt) (by omega); rw [this]; rfl
        have f0 := hO'.frozenAt (j * 2)
        have f1 := hO'.frozenAt (j * 2 + 1)
        have HS := Lib.hid (((hO'.stored (j * 2) (.int .i64 (k0 + 2 * (j : Int)))).1.stored (j * 2 + 1) (.int .i64 (k0 + 2 * (j : Int) + 1))).1)
        clear hO'
        have HX : Hid ((((l'.flatMap cMove).set (j * 2) (.int .i64 (k0 + 2 * (j : Int)))).set (j * 2 + 1) (.int .i64 (k0 + 2 * (j : Int) + 1))) = (l'.set j (⟨k0 + 2 * (j : Int), k0 + 2 * (j : Int) + 1⟩ : Move)).flatMap cMove) := by
          have e0 : (l'.flatMap cMove).set (j * 2) (.int .i64 (k0 + 2 * (j : Int))) = (l'.set j (⟨k0 + 2 * (j : Int), (l'[j]?.getD default).dir⟩ : Move)).flatMap cMove := flatMap_set default cMove 2 (fun _ => rfl) l' j 0 (.int .i64 (k0 + 2 * (j : Int))) ⟨k0 + 2 * (j : Int), (l'[j]?.getD default).dir⟩ (by simp [HL.out]; exact hlt) (by omega) (by simp [HL.out, hlt, cMove])
          have e1 : ((l'.set j (⟨k0 + 2 * (j : Int), (l'[j]?.getD default).dir⟩ : Move)).flatMap cMove).set (j * 2 + 1) (.int .i64 (k0 + 2 * (j : Int) + 1)) = ((l'.set j (⟨k0 + 2 * (j : Int), (l'[j]?.getD default).dir⟩ : Move)).set j (⟨k0 + 2 * (j : Int), k0 + 2 * (j : Int) + 1⟩ : Move)).flatMap cMove := flatMap_set default cMove 2 (fun _ => rfl) (l'.set j (⟨k0 + 2 * (j : Int), (l'[j]?.getD default).dir⟩ : Move)) j 1 (.int .i64 (k0 + 2 * (j : Int) + 1)) ⟨k0 + 2 * (j : Int), k0 + 2 * (j : Int) + 1⟩ (by simp [HL.out]; exact hlt) (by omega) (by simp [HL.out, hlt, cMove])
          rw [List.set_set] at e1
          exact Lib.hid (by rw [e0, e1])
        generalize (l'[j]?.getD default) = x0 at *
        go_wp2
        go_roundw
        case rel =>
          refine ⟨j + 1, l'.set j ⟨k0 + 2 * (j : Int), k0 + 2 * (j : Int) + 1⟩, by omega, by go_num, ret_k (by omega), ((hB.setCell (by simp) _).setCell (by simp) _), Lib.hid (by rw [List.length_set]; exact HL.out), by rw [← HX.out]; exact HS.out, Lib.hid (fun i hi => ?_)⟩
          by_cases e : i = j
          · subst e; rw [List.getElem?_set_self (by rw [HL.out]; exact hlt)]; rfl
          · rw [List.getElem?_set_ne (fun e' => e e'.symm)]; exact HJ.out i (by omega)
        case measure => simp [intOf]; omega
      · obtain rfl : j = n := by omega
        go_wp2
        go_ret
        refine ⟨l', by rw [show movesM.cnt l = 2 * l.length from rfl, ← Hn.out]; show Ending.returned (.int .i64 (k0 + 2 * (j : Int))) = _; congr 2 <;> omega, ?_, fun i hi => HJ.out i (by rw [← HL.out]; exact hi), by show 2 * l'.length = 2 * l.length; rw [HL.out, Hn.out], hB⟩
        refine ow_flats cMove (fun x hx => ?_) (by rw [HL.out]; exact hO')
        obtain ⟨i, hi, rfl⟩ := List.getElem_of_mem hx
        have hi' := HJ.out i (by rw [← HL.out]; exact hi)
        rw [List.getElem?_eq_getElem hi] at hi'
        simp only [Option.getD_some] at hi'
        rw [hi']
        have := HL.out
        exact ow_moveE ⟨by constructor <;> simp only <;> omega, by constructor <;> simp only <;> omega⟩

set_option maxHeartbeats 1000000 in
theorem heldMoveS_any (v : Value) (l : List Move) (B : Nat) (k0 : Int) (w : World) (h : movesE.rd w B [v] l) (hm : movesM.held l k0) (h0 : 0 ≤ k0) (h1 : k0 + movesM.cnt l ≤ 4611686018427387904) :
    Calls Tryz.prog 70 #[v, .int .i64 k0] w (Gives (.int .i64 (k0 + movesM.cnt l)) w) := by
  have h1 : k0 + 2 * (l.length : Int) ≤ 4611686018427387904 := by have : movesM.cnt l = 2 * l.length := rfl; omega
  have Hc := Lib.hid (show (movesM.cnt l : Int) = 2 * (l.length : Int) by have : movesM.cnt l = 2 * l.length := rfl; omega)
  obtain ⟨a, cap, rfl, a1, a2, -, a4⟩ := rd_movesE h
  clear h
  obtain ⟨n, hn⟩ : ∃ n, n = l.length := ⟨_, rfl⟩
  rw [← hn] at a1 a4 h1 Hc ⊢
  have Hn := Lib.hid hn; clear hn
  have H4 := Lib.hid a4; clear a4
  have Hm : Hid (∀ i, i < l.length → l[i]?.getD default = ⟨k0 + 2 * (i : Int), k0 + 2 * (i : Int) + 1⟩) := Lib.hid hm
  clear hm
  go_enter Tryz.func70, Tryz.ntmps70
  go_wp2
  go_loopw [1, 5] (fun k i wr => ∃ j : Nat, j ≤ n ∧ i = .int .i64 j ∧ k = .int .i64 (k0 + 2 * (j : Int)) ∧ Below w.heap.size w wr) (fun _ i _ => n - (intOf i).toNat)
  case atStart => exact ⟨0, by omega, rfl, by simp, Below.refl _ _⟩
  case round =>
    obtain ⟨j, hj, rfl, rfl, hB⟩ := hrel
    by_cases hlt : j < n
    · have jn : (j : Int) < n := by omega
      obtain ⟨b, o, rfl, -, ⟨hc0, hc1⟩, -⟩ := H4.out j hlt
      rw [Hm.out j (by rw [← Hn.out]; exact hlt)] at hc0 hc1
      have c10 := (hB.cell (World.block_lt_of_cell? w _ hc0)).trans hc0
      have c11 := (hB.cell (World.block_lt_of_cell? w _ hc1)).trans hc1
      clear hc0 hc1
      dsimp only at c10 c11
      have t0 : ((k0 + 2 * (j : Int)) != (k0 + 2 * (j : Int))) = false := by simp
      have t1 : ((k0 + 2 * (j : Int) + 1) != (k0 + 2 * (j : Int) + 1)) = false := by simp
      go_wp2
      go_roundw
      case rel => exact ⟨j + 1, by omega, by go_num, ret_k (by omega), hB⟩
      case measure => simp [intOf]; omega
    · obtain rfl : j = n := by omega
      go_wp2
      go_ret
      exact ⟨by rw [Hc.out]; rfl, hB⟩

end Go.Proofs.YtodoghidckelcaaGreatDoor
