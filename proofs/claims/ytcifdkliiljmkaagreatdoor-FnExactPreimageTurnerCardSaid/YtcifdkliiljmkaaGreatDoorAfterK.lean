/-
  The program's after: the state to which a text leads (written by a program of this claim's own, gen_pre.py).
-/
import Derived.PlainAid
import Derived.Test.YtcifdkliiljmkaaGreatDoorPreDefK
namespace Go.Proofs.YtcifdkliiljmkaaGreatDoor
open Go.RowKit Go.PlainAid

theorem letterOf_is (c : Nat) (z : Int) (w : World) (hz : z = 97 + (c : Int)) (hc : c ≤ 158) : Calls Tryz.prog 96 #[.int .u8 z] w (Keeps (.int .i64 (c : Int)) w) := by
  subst hz
  have w1 : IntKind.u8.wrap (97 + (c : Int) - 97) = (c : Int) := by
    have e : 97 + (c : Int) - 97 = (c : Int) := by omega
    rw [e]
    exact IntWalk.u8_in _ ⟨by omega, by omega⟩
  have w2 : IntKind.i64.wrap (c : Int) = (c : Int) := IntWalk.i64_in _ ⟨by omega, by omega⟩
  go_enter Tryz.func96, Tryz.ntmps96
  go_wp2
  go_ret
  exact ⟨by simp, rfl⟩

theorem take_bt (x : ByteArray) (k : Nat) (h : k < x.size) : ∃ b : UInt8, (b.toNat : Int) = bt x k ∧ x.data.toList.take (k + 1) = x.data.toList.take k ++ [b] ∧ b ∈ x.data.toList := by
  have hl : k < x.data.toList.length := by rw [Array.length_toList]; exact h
  refine ⟨x.data.toList[k], ?_, List.take_succ_eq_append_getElem hl, List.getElem_mem hl⟩
  unfold bt
  rw [dif_pos h]
  rfl

set_option maxHeartbeats 2000000 in
theorem after_any (cs : List Value) (r : Reader) (s : Nat) (x : ByteArray) (B : Nat) (w : World) (hB0 : B ≤ w.heap.size) (h : readE.rd w B cs r) (hv : validRead r = true) (h3 : r.letters = 3) (hs : s < r.accept.length) (hx : outOk x = true) :
    Calls Tryz.prog 69 #[.agg cs.toArray, .int .i64 s, .string x] w (Gives (.int .i64 (afterL r s x.data.toList)) w) := by
  have K := readOk_of hv
  have hz : x.size ≤ 3 := out_size hx
  have hxb := out_bytes hx
  obtain ⟨v3, v4, rfl, b1, b2, h4, h5⟩ := rd_Reader h
  obtain ⟨sa, sn, sc, rfl⟩ := rd_slice h4
  obtain ⟨ta, tc, rfl, t1, t2, -, t4⟩ := rd_slice1 rfl h5
  obtain ⟨n, hn⟩ : ∃ n, n = r.accept.length := ⟨_, rfl⟩
  have hnn : r.next.length = n := by rw [K.nn, hn]
  rw [← hn] at hs
  rw [hnn] at t1 t4 ⊢
  have hn300 : n ≤ 300 := by rw [hn]; exact K.n300
  have HK := Lib.hid K; have H3 := Lib.hid h3; have HN := Lib.hid hn; have HNN := Lib.hid hnn
  have T4 := Lib.hid t4; have HXB := Lib.hid hxb
  have hb := get_bt x
  clear K h h4 h5 hv h3 hn hnn t4 hxb hx
  go_enter Tryz.func69, Tryz.ntmps69
  go_wp2
  generalize hW : w.alloc _ = w0
  obtain ⟨A0, B0⟩ := blk1 hW
  clear hW
  have HA := Lib.hid A0
  clear A0
  go_loopw [1, 10] (fun vs i wr => ∃ (k s1 : Nat), k ≤ x.size ∧ vs = .int .i64 s1 ∧ i = .int .i64 k ∧ s1 < n ∧ Hid (s1 = afterL r s (x.data.toList.take k)) ∧ Below w0.heap.size w0 wr) (fun _ i _ => x.size - (intOf i).toNat)
  case atStart => exact ⟨0, s, by omega, rfl, rfl, hs, Lib.hid rfl, Below.refl _ _⟩
  case round =>
    obtain ⟨k, s1, hk, rfl, rfl, hs1, HS, BR⟩ := hrel
    by_cases hlt : k < x.size
    case neg =>
      have hfull : x.data.toList.take k = x.data.toList := List.take_of_length_le (by rw [Array.length_toList]; show x.size ≤ k; omega)
      have t5 : ¬ (k : Int) < (x.size : Int) := by omega
      have HF := Lib.hid hfull
      clear hfull
      go_wp2
      go_ret
      exact ⟨by rw [← HF.out, ← HS.out]; rfl, B0.trans (BR.mono B0.size)⟩
    have t5 : (k : Int) < (x.size : Int) := by omega
    obtain ⟨b, hbv, htk, hbm⟩ := take_bt x k hlt
    obtain ⟨hb1, hb2⟩ := HXB.out b hbm
    obtain ⟨c, hc⟩ : ∃ c, c = b.toNat - 97 := ⟨_, rfl⟩
    have hc3 : c < 3 := by omega
    have hbc : bt x k = 97 + (c : Int) := by omega
    obtain ⟨ho, hlt2⟩ := HK.out.next H3.out (s := s1) (c := c) (by rw [← HN.out]; exact hs1) hc3
    have hstep : nextR r s1 c = afterL r s (x.data.toList.take (k + 1)) := by rw [htk, afterL_snoc, ← HS.out, hc]
    obtain ⟨bb, oo, vk, rfl, -, hrc, hrd⟩ := T4.out s1 hs1
    have hm := mem_getD (l := r.next) (k := s1) (by rw [HNN.out]; exact hs1)
    have hrl := (HK.out.row _ hm).1
    obtain ⟨row, hrow⟩ : ∃ y, y = r.next[s1]?.getD default := ⟨_, rfl⟩
    rw [← hrow] at hrd hrl ho
    obtain ⟨ja, jc, rfl, j1, j2, -, j4⟩ := rd_ints hrd
    have hl3 : row.length = 3 := by have := H3.out; omega
    rw [hl3] at j1 j4 hrc
    obtain ⟨pb, po, rfl, -, hpc, -, -⟩ := j4 c hc3
    rw [ho] at hpc
    obtain ⟨s2, hs2⟩ : ∃ y, y = nextR r s1 c := ⟨_, rfl⟩
    rw [← hs2] at hpc hstep hlt2
    have hlt3 : s2 < n := by rw [HN.out]; exact hlt2
    have BW := B0.trans (BR.mono B0.size)
    have q0 := (BW.cell (World.block_lt_of_cell? w _ hrc)).trans hrc
    have q1 := (BW.cell (World.block_lt_of_cell? w _ hpc)).trans hpc
    have A := HA.out.of BR HA.out.lt
    have c3 := A.cell 3 rfl
    have g0 := A.lt
    have g1 : bb < wr.heap.size := World.block_lt_of_cell? wr _ q0
    have g2 : pb < wr.heap.size := World.block_lt_of_cell? wr _ q1
    have hov := cell_over wr
    have i1 : (0 : Int) ≤ (s1 : Int) := by omega
    have i2 : (s1 : Int) < (n : Int) := by omega
    have i3 : (0 : Int) ≤ (c : Int) := by omega
    have i4 : (c : Int) < 3 := by omega
    have i5 : (0 : Int) ≤ (k : Int) := by omega
    have wk : IntKind.i64.wrap ((k : Int) + 1) = (k : Int) + 1 := IntWalk.i64_in _ ⟨by omega, by omega⟩
    have HSTEP := Lib.hid hstep
    have hlo := fun w' => Lib.hid (letterOf_is c (bt x k) w' hbc (by omega))
    clear hstep hbv htk hbm hb1 hb2 hc ho hrow hrd hrl j1 j4 hrc hpc hs2 hlt2 hm hl3 BW A hbc
    go_wp2
    refine wp_region_over (by kernel_rfl) (by kernel_rfl) ?_
    repeat (go_big_quiet_step ((go_at_call 96; exact calls_same (hlo _).out)))
    refine wpQuiet_nil ?_
    intro w5 b5
    clear q0 q1 c3 g0 g1 g2 hov hlo
    go_wp2
    go_roundw
    case rel => exact ⟨k + 1, s2, by omega, rfl, by go_num, hlt3, HSTEP, BR.trans (b5.mono BR.size)⟩
    case measure => simp [intOf]; omega

end Go.Proofs.YtcifdkliiljmkaaGreatDoor
