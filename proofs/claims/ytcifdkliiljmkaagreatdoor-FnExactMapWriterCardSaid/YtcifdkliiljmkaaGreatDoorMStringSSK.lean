/-
  Contracts of the laws' own helpers at one slice type (written by a program of this claim's own, gen_leaf.py).
-/
import Derived.Test.YtcifdkliiljmkaaGreatDoorMStringSK
namespace Go.Proofs.YtcifdkliiljmkaaGreatDoor
open Go.RowKit

set_option maxHeartbeats 400000 in
theorem markStringSS_any (v : Value) (l : List (List ByteArray)) (fp : List Nat) (k0 : Int) (w : World) (h : strssE.ow w [v] l fp) (hn : fp.Nodup) (h0 : 0 < k0) (h1 : k0 + cntL strsM l ≤ 4611686018427387904) :
    Calls Tryz.prog 41 #[v, .int .i64 k0] w (Marks strssE (listM strsM) [v] l fp k0 w) := by
  have hlen := ow_len h
  obtain ⟨a, cap, rfl⟩ := ow_shape h
  obtain ⟨n, hnl⟩ : ∃ n, n = l.length := ⟨_, rfl⟩
  have hS := Lib.hid (MState.start (M := strsM) (k0 := k0) h)
  rw [← hnl] at hlen hS ⊢
  have Hn := Lib.hid hnl; clear hnl h
  have Hnd := Lib.hid hn; clear hn
  go_enter Tryz.func41, Tryz.ntmps41
  go_wp2
  go_loopw [1, 5] (fun k i wr => ∃ j : Nat, ∃ q : Int, j ≤ n ∧ i = .int .i64 j ∧ k = .int .i64 q ∧ Hid (q = k0 + cntL strsM (l.take j)) ∧ MState strsE 51 strsM l fp (.slice a n cap) k0 w wr j) (fun _ i _ => n - (intOf i).toNat)
  case atStart => exact ⟨0, k0, by omega, rfl, rfl, Lib.hid (by simp [cntL]), hS.out⟩
  case round =>
    obtain ⟨j, q, hj, rfl, rfl, HQ, HS⟩ := hrel
    by_cases hlt : j < n
    · obtain ⟨x, hx⟩ : ∃ x, l[j]? = some x := ⟨_, get_some default (by rw [← Hn.out]; exact hlt)⟩
      obtain ⟨g, cap', vk, f, hv, c1, ho, hf, hstep⟩ := HS.elem rfl Hnd.out hx
      simp only [Value.slice.injEq] at hv
      obtain ⟨rfl, -, rfl⟩ := hv
      have hc : cntL strsM (l.take (j + 1)) = cntL strsM (l.take j) + strsM.cnt x := cntL_take strsM l j x hx
      have hc2 := cntL_take_le strsM l (j + 1)
      have hq0 : 0 < q := by have := HQ.out; omega
      have hq1 : q + strsM.cnt x ≤ 4611686018427387904 := by have := HQ.out; omega
      have HC : Hid (q + (strsM.cnt x : Int) = k0 + cntL strsM (l.take (j + 1))) := Lib.hid (by rw [hc, HQ.out]; omega)
      have HST := Lib.hid hstep; clear hstep hx HS hc hc2
      have HF := Lib.hid hf; clear hf
      go_wp2_with fail
      refine (markStringS_any _ x f q _ ho hq0 hq1).mono ?_
      rintro e w1 ⟨x', rfl, ho', hm', hc', hb'⟩
      have HS2 := HST.out w1 x' hb' ho' (by rw [← HQ.out]; exact hm') hc'
      clear ho ho' hm' hc' hb'
      generalize q + (strsM.cnt x : Int) = q2 at *
      go_wp2
      go_roundw
      case rel => exact ⟨j + 1, q2, by omega, by go_num, rfl, HC, HS2⟩
      case measure => simp [intOf]; omega
    · obtain rfl : j = n := by omega
      have HQ2 : Hid (q = k0 + cntL strsM l) := Lib.hid (by have := HQ.out; rwa [Hn.out, List.take_length] at this)
      rw [Hn.out] at HS
      go_wp2
      go_ret
      have := HS.done
      rw [← HQ2.out] at this
      rw [Hn.out]
      exact this

set_option maxHeartbeats 400000 in
theorem heldStringSS_any (v : Value) (l : List (List ByteArray)) (B : Nat) (k0 : Int) (w : World) (hB0 : B ≤ w.heap.size) (h : strssE.rd w B [v] l) (hm : heldL strsM l k0) (h0 : 0 < k0) (h1 : k0 + cntL strsM l ≤ 4611686018427387904) :
    Calls Tryz.prog 60 #[v, .int .i64 k0] w (Gives (.int .i64 (k0 + cntL strsM l)) w) := by
  obtain ⟨a, cap, rfl, a1, a2, -, a4⟩ := rd_slice1 rfl h
  clear h
  obtain ⟨n, hn⟩ : ∃ n, n = l.length := ⟨_, rfl⟩
  rw [← hn] at a1 a4 ⊢
  have Hn := Lib.hid hn; clear hn
  have H4 := Lib.hid a4; clear a4
  have Hm := Lib.hid hm; clear hm
  go_enter Tryz.func60, Tryz.ntmps60
  go_wp2
  go_loopw [1, 5] (fun k i wr => ∃ j : Nat, ∃ q : Int, j ≤ n ∧ i = .int .i64 j ∧ k = .int .i64 q ∧ Hid (q = k0 + cntL strsM (l.take j)) ∧ Below w.heap.size w wr) (fun _ i _ => n - (intOf i).toNat)
  case atStart => exact ⟨0, k0, by omega, rfl, rfl, Lib.hid (by simp [cntL]), Below.refl _ _⟩
  case round =>
    obtain ⟨j, q, hj, rfl, rfl, HQ, hB⟩ := hrel
    by_cases hlt : j < n
    · obtain ⟨b, o, vk, rfl, -, hc, hr⟩ := H4.out j hlt
      have c1 := (hB.cell (World.block_lt_of_cell? w _ hc)).trans hc
      have HR := Lib.hid (strsE.rd_of (hB.mono hB0) hr)
      have HX := Lib.hid (get_some default (l := l) (k := j) (by rw [← Hn.out]; exact hlt))
      clear hc hr
      generalize l[j]?.getD default = x at *
      have hc : cntL strsM (l.take (j + 1)) = cntL strsM (l.take j) + strsM.cnt x := cntL_take strsM l j x HX.out
      have hc2 := cntL_take_le strsM l (j + 1)
      have hq0 : 0 < q := by have := HQ.out; omega
      have hq1 : q + strsM.cnt x ≤ 4611686018427387904 := by have := HQ.out; omega
      have HC : Hid (q + (strsM.cnt x : Int) = k0 + cntL strsM (l.take (j + 1))) := Lib.hid (by rw [hc, HQ.out]; omega)
      have HMx := Lib.hid (show strsM.held x q by rw [HQ.out]; exact heldL_take strsM l j k0 x HX.out Hm.out)
      clear hc hc2
      go_wp2_with fail
      refine (heldStringS_any _ x B q _ HR.out HMx.out hq0 hq1).mono ?_
      rintro e w1 ⟨rfl, hbl⟩
      have B1 := hB.trans (hbl.mono hB.size)
      have ht : ¬ q + (strsM.cnt x : Int) < 0 := by omega
      clear hbl hB
      generalize q + (strsM.cnt x : Int) = q2 at *
      go_wp2
      go_roundw
      case rel => exact ⟨j + 1, q2, by omega, by go_num, rfl, HC, B1⟩
      case measure => simp [intOf]; omega
    · obtain rfl : j = n := by omega
      have HQ2 : Hid (q = k0 + cntL strsM l) := Lib.hid (by have := HQ.out; rwa [Hn.out, List.take_length] at this)
      go_wp2
      go_ret
      exact ⟨by rw [← HQ2.out]; rfl, hB⟩

end Go.Proofs.YtcifdkliiljmkaaGreatDoor
