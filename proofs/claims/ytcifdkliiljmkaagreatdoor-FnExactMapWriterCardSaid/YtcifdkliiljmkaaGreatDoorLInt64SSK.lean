/-
  Contracts of the laws' own helpers at one slice type (written by a program of this claim's own, gen_leaf.py).
-/
import Derived.Test.YtcifdkliiljmkaaGreatDoorPackA
namespace Go.Proofs.YtcifdkliiljmkaaGreatDoor
open Go.RowKit

set_option maxHeartbeats 400000 in
theorem eqInt64SS_any (va vb : Value) (la lb : List (List Int)) (B B' : Nat) (w : World) (hB1 : B ≤ w.heap.size) (hB2 : B' ≤ w.heap.size) (ha : intssE.rd w B [va] la) (hb : intssE.rd w B' [vb] lb) :
    Calls Tryz.prog 40 #[va, vb] w (Gives (.bool (decide (la = lb))) w) := by
  obtain ⟨a, ca, rfl, a1, a2, -, a4⟩ := rd_slice1 rfl ha
  obtain ⟨b, cb, rfl, b1, b2, -, b4⟩ := rd_slice1 rfl hb
  clear ha hb
  have H4 := Lib.hid a4; clear a4
  have K4 := Lib.hid b4; clear b4
  by_cases hlen : la.length = lb.length
  · obtain ⟨n, hn⟩ : ∃ n, n = la.length := ⟨_, rfl⟩
    rw [← hn] at hlen H4 a1 ⊢
    rw [← hlen] at K4 b1 ⊢
    have Hn := Lib.hid hn; clear hn
    have Hl := Lib.hid hlen; clear hlen
    go_enter Tryz.func40, Tryz.ntmps40
    go_wp2
    go_loopw [5] (fun i wr => ∃ k : Nat, k ≤ n ∧ i = .int .i64 k ∧ Below w.heap.size w wr ∧ Hid (∀ i, i < k → la[i]?.getD [] = lb[i]?.getD [])) (fun i _ => n - (intOf i).toNat)
    case atStart => exact ⟨0, by omega, rfl, Below.refl _ _, Lib.hid (fun i hi => absurd hi (by omega))⟩
    case round =>
      obtain ⟨k, hk, rfl, hB, HE⟩ := hrel
      by_cases hlt : k < n
      · obtain ⟨p, o, v1, rfl, -, hc, hr1⟩ := H4.out k hlt
        obtain ⟨p', o', v2, rfl, -, hc', hr2⟩ := K4.out k hlt
        have g1 := World.block_lt_of_cell? w _ hc
        have g2 := World.block_lt_of_cell? w _ hc'
        have c1 := (hB.cell g1).trans hc
        have c2 := (hB.cell g2).trans hc'
        have g1 : p < wr.heap.size := Nat.lt_of_lt_of_le g1 hB.size
        have g2 : p' < wr.heap.size := Nat.lt_of_lt_of_le g2 hB.size
        have hov := cell_over wr
        have r1 := intsE.rd_of (hB.mono hB1) hr1
        have r2 := intsE.rd_of (hB.mono hB2) hr2
        have q1 : B ≤ wr.heap.size := Nat.le_trans hB1 hB.size
        have q2 : B' ≤ wr.heap.size := Nat.le_trans hB2 hB.size
        have R1 := Lib.hid r1; clear r1 hr1
        have R2 := Lib.hid r2; clear r2 hr2
        clear hc hc'
        by_cases he : la[k]?.getD [] = lb[k]?.getD []
        · have He := Lib.hid he; clear he
          go_wp2
          refine wp_region_over (by kernel_rfl) (by kernel_rfl) ?_
          repeat (go_big_quiet_step ((go_at_call 73; exact calls_over (eqInt64S_is true _ _ _ _ _ _ _ (decide_eq_true He.out) (intsE.rd_of ((below_over wr _).mono q1) R1.out) (intsE.rd_of ((below_over wr _).mono q2) R2.out)))))
          refine wpQuiet_nil ?_
          intro w1 hw1
          go_wp2
          go_roundw
          case rel => exact ⟨k + 1, by omega, by go_num, hB.trans (hw1.mono hB.size), Lib.hid (fun i hi => by by_cases h : i = k; (subst h; exact He.out); exact HE.out i (by omega))⟩
          case measure => simp [intOf]; omega
        · have He := Lib.hid he; clear he
          go_wp2
          refine wp_region_over (by kernel_rfl) (by kernel_rfl) ?_
          repeat (go_big_quiet_step ((go_at_call 73; exact calls_over (eqInt64S_is false _ _ _ _ _ _ _ (decide_eq_false He.out) (intsE.rd_of ((below_over wr _).mono q1) R1.out) (intsE.rd_of ((below_over wr _).mono q2) R2.out)))))
          refine wpQuiet_nil ?_
          intro w1 hw1
          go_wp2
          go_ret
          have : la ≠ lb := fun e => He.out (by rw [e])
          exact ⟨by simp [this], hB.trans (hw1.mono hB.size)⟩
      · obtain rfl : k = n := by omega
        go_wp2
        go_ret
        have : la = lb := ext_getD [] (by rw [← Hn.out, Hl.out]) (fun i hi => HE.out i (by rw [Hn.out]; exact hi))
        exact ⟨by simp [this], hB⟩
  · have hb := bne_len hlen
    have : la ≠ lb := fun e => hlen (by rw [e])
    have Ht := Lib.hid this; clear this
    go_enter Tryz.func40, Tryz.ntmps40
    go_wp2
    go_ret
    exact ⟨by simp [Ht.out], Below.refl _ _⟩

theorem eqInt64SS_is (r : Bool) (va vb : Value) (la lb : List (List Int)) (B B' : Nat) (w : World) (hB1 : B ≤ w.heap.size) (hB2 : B' ≤ w.heap.size) (hr : decide (la = lb) = r) (ha : intssE.rd w B [va] la) (hb : intssE.rd w B' [vb] lb) :
    Calls Tryz.prog 40 #[va, vb] w (Gives (.bool r) w) := hr ▸ eqInt64SS_any va vb la lb B B' w hB1 hB2 ha hb

theorem info_Int64SS : (Tryz.prog.info? 89).map (fun i => (i.zero, i.size, i.bytes)) = some (some (.slice none 0 0), 1, 24) := by kernel_rfl

set_option maxHeartbeats 400000 in
theorem toInt64SS_any (v : Value) (l : List (List Int)) (B : Nat) (w : World) (hB0 : B ≤ w.heap.size) (h : intssE.rd w B [v] l) (hl : l.length ≤ 1048576) (hm : ∀ x, x ∈ l → x.length ≤ 1048576) :
    Calls Tryz.prog 34 #[v] w (Makes intssE id l w) := by
  obtain ⟨a, cap, rfl, h1, h2, h3, h4⟩ := rd_slice1 rfl h
  obtain ⟨i0, hi, hz0, hz1, hz2⟩ := info_parts info_Int64SS
  obtain ⟨n, hn⟩ : ∃ n, n = l.length := ⟨_, rfl⟩
  rw [← hn] at hl h4 h1 ⊢
  have hmk := make_run (P := Tryz.prog) Tryz.underlying29 hi hz0 hz1 n (by rw [hz2]; omega) (by omega)
  have hmo := made_owns (w := w) (ty := 89) (.slice none 0 0) n (by simp [maxLen]; omega)
  have Hn := Lib.hid hn; clear hn h
  have Hm := Lib.hid hm; clear hm
  have H4 := Lib.hid h4; clear h4
  have Hmo := Lib.hid hmo; clear hmo
  clear hi hz0 hz1 hz2
  go_enter Tryz.func34, Tryz.ntmps34
  go_wp2
  simp only [Value.cells] at *
  have hb0 : Below w.heap.size w (w.alloc (Obj.cells (madeCells #[Value.slice none 0 0] n) 89)) := (Below.refl _ _).alloc (Nat.le_refl _) _
  have HB0 := Lib.hid hb0; clear hb0
  generalize w.alloc (Obj.cells (madeCells #[Value.slice none 0 0] n) 89) = w1 at *
  obtain ⟨g, hg⟩ : ∃ g, g = w.heap.size := ⟨_, rfl⟩
  rw [← hg] at Hmo HB0 ⊢
  have Hg := Lib.hid hg; clear hg hmk
  go_loopw [4] (fun i wr => ∃ k : Nat, k ≤ n ∧ i = .int .i64 k ∧ Spine intsE 89 g n (.slice none 0 0) l k w wr) (fun i _ => n - (intOf i).toNat)
  case atStart => exact ⟨0, by omega, rfl, Spine.start Hmo.out HB0.out⟩
  case round =>
    obtain ⟨k, hk, rfl, hS⟩ := hrel
    have hB := hS.below
    by_cases hlt : k < n
    · obtain ⟨b, o, vk, rfl, hb, hc, hr⟩ := H4.out k hlt
      have hb' := World.block_lt_of_cell? w _ hc
      have c1 : wr.cell? ⟨b, o + k, none⟩ = some vk := by rw [hB.cell (by rw [Hg.out]; exact hb')]; exact hc
      have hkl : k < l.length := by rw [← Hn.out]; exact hlt
      have hr1 := intsE.rd_of (hB.mono (by rw [Hg.out]; exact hB0)) hr
      have hlm : (l[k]?.getD default).length ≤ 1048576 := Hm.out _ (by simp [List.getElem?_eq_getElem hkl])
      have hlk : l[k]? = some (l[k]?.getD default) := by simp [List.getElem?_eq_getElem hkl]
      have HLK := Lib.hid hlk; clear hlk
      have HR := Lib.hid hr1; clear hr1 hr hc hb hb'
      have HL := Lib.hid hlm; clear hlm
      go_wp2_with fail
      refine (toInt64S_any _ _ _ _ HR.out HL.out).mono ?_
      rintro e w1 ⟨v', fp, rfl, ho, hnd, hge, hbl⟩
      obtain ⟨a', n', cp', rfl⟩ := ow_slice ho
      obtain ⟨c2, c3⟩ := hS.cell hlt hbl
      have HS := Lib.hid (hS.step hlt hbl HLK.out ho hnd hge)
      clear hS ho hnd hge hB hbl
      go_wp2
      go_roundw
      case rel => exact ⟨k + 1, by omega, by go_num, HS.out⟩
      case measure => simp [intOf]; omega
    · obtain rfl : k = n := by omega
      go_wp2
      go_ret
      exact hS.done rfl Hn.out Hg.out

set_option maxHeartbeats 400000 in
theorem szInt64SS_any (v : Value) (l : List (List Int)) (B : Nat) (w : World) (left : Int) (hB0 : B ≤ w.heap.size) (h : intssE.rd w B [v] l) (h0 : 0 ≤ left) (h1 : left ≤ 1048576) :
    Calls Tryz.prog 28 #[v, .int .i64 left] w (Gives (.int .i64 (lim (l.length + sumLen l) left)) w) := by
  obtain ⟨a, cap, rfl, a1, a2, -, h4⟩ := rd_slice1 rfl h
  clear h
  obtain ⟨n, hn⟩ : ∃ n, n = l.length := ⟨_, rfl⟩
  rw [← hn] at h4 a1 ⊢
  have Hn := Lib.hid hn; clear hn
  have H4 := Lib.hid h4; clear h4
  by_cases hlt : left < n
  · have hr := Lib.hid (lim_of_lt (t := n + sumLen l) (left := left) (by omega))
    have ht : left - (n : Int) < 0 := by omega
    go_enter Tryz.func28, Tryz.ntmps28
    go_wp2
    go_ret
    exact ⟨by rw [hr.out]; rfl, Below.refl _ _⟩
  · have ht : ¬ left - (n : Int) < 0 := by omega
    go_enter Tryz.func28, Tryz.ntmps28
    go_wp2
    go_loopw [1, 5] (fun r i wr => ∃ k : Nat, ∃ q : Int, k ≤ n ∧ i = .int .i64 k ∧ Below w.heap.size w wr ∧ r = .int .i64 q ∧ 0 ≤ q ∧ q ≤ 1048576 ∧ Hid (q = left - n - sumLen (l.take k))) (fun _ i _ => n - (intOf i).toNat)
    case atStart => exact ⟨0, left - n, by omega, rfl, Below.refl _ _, rfl, by omega, by omega, Lib.hid (by simp [sumLen])⟩
    case round =>
      obtain ⟨k, q, hk, rfl, hB, rfl, q0, q1, HQ⟩ := hrel
      by_cases hkn : k < n
      · obtain ⟨b, o, vk, rfl, -, hc, hr⟩ := H4.out k hkn
        have c1 := (hB.cell (World.block_lt_of_cell? w _ hc)).trans hc
        have HR := Lib.hid (intsE.rd_of (hB.mono hB0) hr)
        have HK := Lib.hid (get_some default (l := l) (k := k) (by rw [← Hn.out]; exact hkn))
        clear hc hr
        generalize l[k]?.getD default = x at *
        go_wp2_with fail
        refine (szInt64S_any _ x _ _ _ HR.out q0 q1).mono ?_
        rintro e w1 ⟨rfl, hbl⟩
        have B1 := Lib.hid (hB.trans (hbl.mono hB.size)); clear hB hbl
        have HT := Lib.hid (sumLen_take l k x HK.out)
        have HM := Lib.hid (sumLen_le l (k + 1))
        by_cases hx : q < x.length
        · rw [lim_of_lt hx]
          have hr := Lib.hid (lim_of_lt (t := n + sumLen l) (left := left) (by have := HQ.out; have := HT.out; have := HM.out; omega))
          go_wp2
          go_ret
          exact ⟨by rw [hr.out]; rfl, B1.out⟩
        · rw [lim_of_ge hx]
          have ht : ¬ q - (x.length : Int) < 0 := by omega
          go_wp2
          go_roundw
          case rel => exact ⟨k + 1, q - x.length, by omega, by go_num, B1.out, rfl, by omega, by omega, Lib.hid (by have := HQ.out; have := HT.out; omega)⟩
          case measure => simp [intOf]; omega
      · obtain rfl : k = n := by omega
        have hq : q = lim (k + sumLen l) left := by
          have h1 := HQ.out
          rw [Hn.out, List.take_length] at h1
          rw [lim_of_ge (by rw [Hn.out]; omega)]
          rw [Hn.out]
          omega
        have HQ2 := Lib.hid hq; clear hq
        go_wp2
        go_ret
        exact ⟨by rw [← HQ2.out]; rfl, hB⟩

end Go.Proofs.YtcifdkliiljmkaaGreatDoor
