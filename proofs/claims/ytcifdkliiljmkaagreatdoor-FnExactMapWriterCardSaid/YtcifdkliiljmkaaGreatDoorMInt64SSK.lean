/-
  Contracts of the laws' own helpers at one slice type (written by a program of this claim's own, gen_leaf.py).
-/
import Derived.Test.YtcifdkliiljmkaaGreatDoorMInt64SK
namespace Go.Proofs.YtcifdkliiljmkaaGreatDoor
open Go.RowKit

set_option maxHeartbeats 400000 in
theorem markInt64SS_any (v : Value) (l : List (List Int)) (fp : List Nat) (k0 : Int) (w : World) (h : intssE.ow w [v] l fp) (hn : fp.Nodup) (h0 : 0 ≤ k0) (h1 : k0 + cntL intsM l ≤ 4611686018427387904) :
    Calls Tryz.prog 43 #[v, .int .i64 k0] w (Marks intssE (listM intsM) [v] l fp k0 w) := by
  have hlen := ow_len h
  obtain ⟨a, cap, rfl⟩ := ow_shape h
  obtain ⟨n, hnl⟩ : ∃ n, n = l.length := ⟨_, rfl⟩
  have hS := Lib.hid (MState.start (M := intsM) (k0 := k0) h)
  rw [← hnl] at hlen hS ⊢
  have Hn := Lib.hid hnl; clear hnl h
  have Hnd := Lib.hid hn; clear hn
  go_enter Tryz.func43, Tryz.ntmps43
  go_wp2
  go_loopw [1, 5] (fun k i wr => ∃ j : Nat, ∃ q : Int, j ≤ n ∧ i = .int .i64 j ∧ k = .int .i64 q ∧ Hid (q = k0 + cntL intsM (l.take j)) ∧ MState intsE 89 intsM l fp (.slice a n cap) k0 w wr j) (fun _ i _ => n - (intOf i).toNat)
  case atStart => exact ⟨0, k0, by omega, rfl, rfl, Lib.hid (by simp [cntL]), hS.out⟩
  case round =>
    obtain ⟨j, q, hj, rfl, rfl, HQ, HS⟩ := hrel
    by_cases hlt : j < n
    · obtain ⟨x, hx⟩ : ∃ x, l[j]? = some x := ⟨_, get_some default (by rw [← Hn.out]; exact hlt)⟩
      obtain ⟨g, cap', vk, f, hv, c1, ho, hf, hstep⟩ := HS.elem rfl Hnd.out hx
      simp only [Value.slice.injEq] at hv
      obtain ⟨rfl, -, rfl⟩ := hv
      have hc : cntL intsM (l.take (j + 1)) = cntL intsM (l.take j) + intsM.cnt x := cntL_take intsM l j x hx
      have hc2 := cntL_take_le intsM l (j + 1)
      have hq0 : 0 ≤ q := by have := HQ.out; omega
      have hq1 : q + intsM.cnt x ≤ 4611686018427387904 := by have := HQ.out; omega
      have HC : Hid (q + (intsM.cnt x : Int) = k0 + cntL intsM (l.take (j + 1))) := Lib.hid (by rw [hc, HQ.out]; omega)
      have HST := Lib.hid hstep; clear hstep hx HS hc hc2
      have HF := Lib.hid hf; clear hf
      go_wp2_with fail
      refine (markInt64S_any _ x f q _ ho hq0 hq1).mono ?_
      rintro e w1 ⟨x', rfl, ho', hm', hc', hb'⟩
      have HS2 := HST.out w1 x' hb' ho' (by rw [← HQ.out]; exact hm') hc'
      clear ho ho' hm' hc' hb'
      generalize q + (intsM.cnt x : Int) = q2 at *
      go_wp2
      go_roundw
      case rel => exact ⟨j + 1, q2, by omega, by go_num, rfl, HC, HS2⟩
      case measure => simp [intOf]; omega
    · obtain rfl : j = n := by omega
      have HQ2 : Hid (q = k0 + cntL intsM l) := Lib.hid (by have := HQ.out; rwa [Hn.out, List.take_length] at this)
      rw [Hn.out] at HS
      go_wp2
      go_ret
      have := HS.done
      rw [← HQ2.out] at this
      rw [Hn.out]
      exact this

end Go.Proofs.YtcifdkliiljmkaaGreatDoor
