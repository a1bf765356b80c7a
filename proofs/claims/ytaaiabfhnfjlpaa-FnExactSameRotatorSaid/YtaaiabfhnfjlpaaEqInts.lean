/-
  The comparisons of lists of numbers, and of lists of these (written by a program of this claim's own, gen_eq.py).
-/
import Derived.Test.YtaaiabfhnfjlpaaLInt64SS
namespace Go.Proofs.Ytaaiabfhnfjlpaa
open Go.RowKit

set_option maxHeartbeats 400000 in
theorem sEqInts_any (va vb : Value) (la lb : List Int) (B B' : Nat) (w : World) (ha : intsE.rd w B [va] la) (hb : intsE.rd w B' [vb] lb) :
    Calls Try.prog 23 #[va, vb] w (Gives (.bool (decide (la = lb))) w) := by
  obtain ⟨a, ca, rfl, a1, a2, _, a4⟩ := rd_ints ha
  obtain ⟨b, cb, rfl, b1, b2, _, b4⟩ := rd_ints hb
  clear ha hb
  have H4 := Lib.hid a4; clear a4
  have K4 := Lib.hid b4; clear b4
  by_cases hlen : la.length = lb.length
  · obtain ⟨n, hn⟩ : ∃ n, n = la.length := ⟨_, rfl⟩
    rw [← hn] at hlen H4 a1 ⊢
    rw [← hlen] at K4 b1 ⊢
    have Hn := Lib.hid hn; clear hn
    have Hl := Lib.hid hlen; clear hlen
    go_enter Try.func23, Try.ntmps23
    go_wp2
    go_loopw [5, 13] (fun _ i wr => ∃ k : Nat, k ≤ n ∧ i = .int .i64 k ∧ Below w.heap.size w wr ∧ Hid (∀ i, i < k → la[i]?.getD 0 = lb[i]?.getD 0)) (fun _ i _ => n - (intOf i).toNat)
    case atStart => exact ⟨0, by omega, rfl, Below.refl _ _, Lib.hid (fun i hi => absurd hi (by omega))⟩
    case round =>
      obtain ⟨k, hk, rfl, hB, HE⟩ := hrel
      by_cases hlt : k < n
      · obtain ⟨p, o, rfl, _, hc, -, -⟩ := H4.out k hlt
        obtain ⟨p', o', rfl, _, hc', -, -⟩ := K4.out k hlt
        have c1 := (hB.cell (World.block_lt_of_cell? w _ hc)).trans hc
        have c2 := (hB.cell (World.block_lt_of_cell? w _ hc')).trans hc'
        clear hc hc'
        generalize hx : la[k]?.getD 0 = x at *
        generalize hy : lb[k]?.getD 0 = y at *
        have HX := Lib.hid hx; have HY := Lib.hid hy; clear hx hy
        by_cases he : x = y
        · have heb : (x != y) = false := by simp [he]
          have He := Lib.hid he; clear he
          go_wp2
          go_quiet (fail)
          go_wp2
          go_roundw
          case rel => exact ⟨k + 1, by omega, by go_num, below_drewN hB _, Lib.hid (fun i hi => by by_cases h : i = k; (subst h; rw [HX.out, HY.out]; exact He.out); exact HE.out i (by omega))⟩
          case measure => simp [intOf]; omega
        · have heb : (x != y) = true := by simpa using he
          have He := Lib.hid he; clear he
          go_wp2
          go_quiet (fail)
          go_wp2
          go_ret
          have : la ≠ lb := fun e => He.out (by rw [← HX.out, ← HY.out, e])
          exact ⟨by simp [this], below_drewN hB _⟩
      · obtain rfl : k = n := by omega
        go_wp2
        go_ret
        have : la = lb := ext_getD 0 (by rw [← Hn.out, Hl.out]) (fun i hi => HE.out i (by rw [Hn.out]; exact hi))
        exact ⟨by simp [this], hB⟩
  · have hb := bne_len hlen
    have : la ≠ lb := fun e => hlen (by rw [e])
    have Ht := Lib.hid this; clear this
    go_enter Try.func23, Try.ntmps23
    go_wp2
    go_ret
    exact ⟨by simp [Ht.out], Below.refl _ _⟩

theorem sEqInts_is (r : Bool) (va vb : Value) (la lb : List Int) (B B' : Nat) (w : World) (hr : decide (la = lb) = r) (ha : intsE.rd w B [va] la) (hb : intsE.rd w B' [vb] lb) :
    Calls Try.prog 23 #[va, vb] w (Gives (.bool r) w) := hr ▸ sEqInts_any va vb la lb B B' w ha hb

set_option maxHeartbeats 400000 in
theorem l00Same_any (va vb : Value) (la lb : List Int) (B B' : Nat) (w : World) (ha : intsE.rd w B [va] la) (hb : intsE.rd w B' [vb] lb) :
    Calls Try.prog 20 #[va, vb] w (Gives (.bool (decide (la = lb))) w) := by
  obtain ⟨a, ca, rfl, a1, a2, _, a4⟩ := rd_ints ha
  obtain ⟨b, cb, rfl, b1, b2, _, b4⟩ := rd_ints hb
  clear ha hb
  have H4 := Lib.hid a4; clear a4
  have K4 := Lib.hid b4; clear b4
  by_cases hlen : la.length = lb.length
  · obtain ⟨n, hn⟩ : ∃ n, n = la.length := ⟨_, rfl⟩
    rw [← hn] at hlen H4 a1 ⊢
    rw [← hlen] at K4 b1 ⊢
    have Hn := Lib.hid hn; clear hn
    have Hl := Lib.hid hlen; clear hlen
    go_enter Try.func20, Try.ntmps20
    go_wp2
    go_loopw [5] (fun i wr => ∃ k : Nat, k ≤ n ∧ i = .int .i64 k ∧ Below w.heap.size w wr ∧ Hid (∀ i, i < k → la[i]?.getD 0 = lb[i]?.getD 0)) (fun i _ => n - (intOf i).toNat)
    case atStart => exact ⟨0, by omega, rfl, Below.refl _ _, Lib.hid (fun i hi => absurd hi (by omega))⟩
    case round =>
      obtain ⟨k, hk, rfl, hB, HE⟩ := hrel
      by_cases hlt : k < n
      · obtain ⟨p, o, rfl, _, hc, -, -⟩ := H4.out k hlt
        obtain ⟨p', o', rfl, _, hc', -, -⟩ := K4.out k hlt
        have c1 := (hB.cell (World.block_lt_of_cell? w _ hc)).trans hc
        have c2 := (hB.cell (World.block_lt_of_cell? w _ hc')).trans hc'
        clear hc hc'
        generalize hx : la[k]?.getD 0 = x at *
        generalize hy : lb[k]?.getD 0 = y at *
        have HX := Lib.hid hx; have HY := Lib.hid hy; clear hx hy
        by_cases he : x = y
        · have heb : (x != y) = false := by simp [he]
          have He := Lib.hid he; clear he
          go_wp2
          go_quiet (fail)
          go_wp2
          go_roundw
          case rel => exact ⟨k + 1, by omega, by go_num, below_drewN hB _, Lib.hid (fun i hi => by by_cases h : i = k; (subst h; rw [HX.out, HY.out]; exact He.out); exact HE.out i (by omega))⟩
          case measure => simp [intOf]; omega
        · have heb : (x != y) = true := by simpa using he
          have He := Lib.hid he; clear he
          go_wp2
          go_quiet (fail)
          go_wp2
          go_ret
          have : la ≠ lb := fun e => He.out (by rw [← HX.out, ← HY.out, e])
          exact ⟨by simp [this], below_drewN hB _⟩
      · obtain rfl : k = n := by omega
        go_wp2
        go_ret
        have : la = lb := ext_getD 0 (by rw [← Hn.out, Hl.out]) (fun i hi => HE.out i (by rw [Hn.out]; exact hi))
        exact ⟨by simp [this], hB⟩
  · have hb := bne_len hlen
    have : la ≠ lb := fun e => hlen (by rw [e])
    have Ht := Lib.hid this; clear this
    go_enter Try.func20, Try.ntmps20
    go_wp2
    go_ret
    exact ⟨by simp [Ht.out], Below.refl _ _⟩

theorem l00Same_is (r : Bool) (va vb : Value) (la lb : List Int) (B B' : Nat) (w : World) (hr : decide (la = lb) = r) (ha : intsE.rd w B [va] la) (hb : intsE.rd w B' [vb] lb) :
    Calls Try.prog 20 #[va, vb] w (Gives (.bool r) w) := hr ▸ l00Same_any va vb la lb B B' w ha hb

set_option maxHeartbeats 400000 in
theorem l06SameRows_any (va vb : Value) (la lb : List (List Int)) (B B' : Nat) (w : World) (hB1 : B ≤ w.heap.size) (hB2 : B' ≤ w.heap.size) (ha : intssE.rd w B [va] la) (hb : intssE.rd w B' [vb] lb) :
    Calls Try.prog 19 #[va, vb] w (Gives (.bool (decide (la = lb))) w) := by
  obtain ⟨a, ca, rfl, a1, a2, -, a4⟩ := rd_slice1 rfl ha
  obtain ⟨b, cb, rfl, b1, b2, -, b4⟩ := rd_slice1 rfl hb
  clear ha hb
  have H4 := Lib.hid a4; clear a4
  have K4 := Lib.hid b4; clear b4
  by_cases hlen : la.length = lb.length
  · obtain ⟨n, hn⟩ : ∃ n, n = la.length := ⟨_, rfl⟩
    rw [← hn] at hlen H4 a1 ⊢
    rw [← hlen] at K4 b1 ⊢
    have Hn := Lib.hid hn; clear hn
    have Hl := Lib.hid hlen; clear hlen
    go_enter Try.func19, Try.ntmps19
    go_wp2
    go_loopw [5] (fun i wr => ∃ k : Nat, k ≤ n ∧ i = .int .i64 k ∧ Below w.heap.size w wr ∧ Hid (∀ i, i < k → la[i]?.getD [] = lb[i]?.getD [])) (fun i _ => n - (intOf i).toNat)
    case atStart => exact ⟨0, by omega, rfl, Below.refl _ _, Lib.hid (fun i hi => absurd hi (by omega))⟩
    case round =>
      obtain ⟨k, hk, rfl, hB, HE⟩ := hrel
      by_cases hlt : k < n
      · obtain ⟨p, o, v1, rfl, -, hc, hr1⟩ := H4.out k hlt
        obtain ⟨p', o', v2, rfl, -, hc', hr2⟩ := K4.out k hlt
        have g1 := World.block_lt_of_cell? w _ hc
        have g2 := World.block_lt_of_cell? w _ hc'
        have c1 := (hB.cell g1).trans hc
        have c2 := (hB.cell g2).trans hc'
        have g1 : p < wr.heap.size := Nat.lt_of_lt_of_le g1 hB.size
        have g2 : p' < wr.heap.size := Nat.lt_of_lt_of_le g2 hB.size
        have hov := cell_over wr
        have r1 := intsE.rd_of (hB.mono hB1) hr1
        have r2 := intsE.rd_of (hB.mono hB2) hr2
        have q1 : B ≤ wr.heap.size := Nat.le_trans hB1 hB.size
        have q2 : B' ≤ wr.heap.size := Nat.le_trans hB2 hB.size
        have R1 := Lib.hid r1; clear r1 hr1
        have R2 := Lib.hid r2; clear r2 hr2
        clear hc hc'
        by_cases he : la[k]?.getD [] = lb[k]?.getD []
        · have He := Lib.hid he; clear he
          go_wp2
          refine wp_region_over (by kernel_rfl) (by kernel_rfl) ?_
          repeat (go_big_quiet_step ((go_at_call 20; exact calls_over (l00Same_is true _ _ _ _ _ _ _ (decide_eq_true He.out) (intsE.rd_of ((below_over wr _).mono q1) R1.out) (intsE.rd_of ((below_over wr _).mono q2) R2.out)))))
          refine wpQuiet_nil ?_
          intro w1 hw1
          go_wp2
          go_roundw
          case rel => exact ⟨k + 1, by omega, by go_num, hB.trans (hw1.mono hB.size), Lib.hid (fun i hi => by by_cases h : i = k; (subst h; exact He.out); exact HE.out i (by omega))⟩
          case measure => simp [intOf]; omega
        · have He := Lib.hid he; clear he
          go_wp2
          refine wp_region_over (by kernel_rfl) (by kernel_rfl) ?_
          repeat (go_big_quiet_step ((go_at_call 20; exact calls_over (l00Same_is false _ _ _ _ _ _ _ (decide_eq_false He.out) (intsE.rd_of ((below_over wr _).mono q1) R1.out) (intsE.rd_of ((below_over wr _).mono q2) R2.out)))))
          refine wpQuiet_nil ?_
          intro w1 hw1
          go_wp2
          go_ret
          have : la ≠ lb := fun e => He.out (by rw [e])
          exact ⟨by simp [this], hB.trans (hw1.mono hB.size)⟩
      · obtain rfl : k = n := by omega
        go_wp2
        go_ret
        have : la = lb := ext_getD [] (by rw [← Hn.out, Hl.out]) (fun i hi => HE.out i (by rw [Hn.out]; exact hi))
        exact ⟨by simp [this], hB⟩
  · have hb := bne_len hlen
    have : la ≠ lb := fun e => hlen (by rw [e])
    have Ht := Lib.hid this; clear this
    go_enter Try.func19, Try.ntmps19
    go_wp2
    go_ret
    exact ⟨by simp [Ht.out], Below.refl _ _⟩

theorem l06SameRows_is (r : Bool) (va vb : Value) (la lb : List (List Int)) (B B' : Nat) (w : World) (hB1 : B ≤ w.heap.size) (hB2 : B' ≤ w.heap.size) (hr : decide (la = lb) = r) (ha : intssE.rd w B [va] la) (hb : intssE.rd w B' [vb] lb) :
    Calls Try.prog 19 #[va, vb] w (Gives (.bool r) w) := hr ▸ l06SameRows_any va vb la lb B B' w hB1 hB2 ha hb

set_option maxHeartbeats 400000 in
theorem sEqFInts_any (va vb : Value) (la lb : List (List Int)) (B B' : Nat) (w : World) (f : FuncId) (hB1 : B ≤ w.heap.size) (hB2 : B' ≤ w.heap.size) (ha : intssE.rd w B [va] la) (hb : intssE.rd w B' [vb] lb)
    (hcf : ∀ args w1, (callFunc f args).run Try.prog w1 = .ok (.enter f args) w1)
    (hf : ∀ x y l m w1, Below w.heap.size w w1 → intsE.rd w1 B [x] l → intsE.rd w1 B' [y] m → Calls Try.prog f #[x, y] w1 (Gives (.bool (decide (l = m))) w1)) :
    Calls Try.prog 24 #[va, vb, .func (.func f) #[] #[]] w (Gives (.bool (decide (la = lb))) w) := by
  obtain ⟨a, ca, rfl, a1, a2, -, a4⟩ := rd_slice1 rfl ha
  obtain ⟨b, cb, rfl, b1, b2, -, b4⟩ := rd_slice1 rfl hb
  clear ha hb
  have H4 := Lib.hid a4; clear a4
  have K4 := Lib.hid b4; clear b4
  have Hf := Lib.hid hf; clear hf
  by_cases hlen : la.length = lb.length
  · obtain ⟨n, hn⟩ : ∃ n, n = la.length := ⟨_, rfl⟩
    rw [← hn] at hlen H4 a1 ⊢
    rw [← hlen] at K4 b1 ⊢
    have Hn := Lib.hid hn; clear hn
    have Hl := Lib.hid hlen; clear hlen
    go_enter Try.func24, Try.ntmps24
    go_wp2
    go_loopw [7, 8, 9, 17] (fun _ _ _ i wr => ∃ k : Nat, k ≤ n ∧ i = .int .i64 k ∧ Below w.heap.size w wr ∧ Hid (∀ i, i < k → la[i]?.getD [] = lb[i]?.getD [])) (fun _ _ _ i _ => n - (intOf i).toNat)
    case atStart => exact ⟨0, by omega, rfl, Below.refl _ _, Lib.hid (fun i hi => absurd hi (by omega))⟩
    case round =>
      obtain ⟨k, hk, rfl, hB, HE⟩ := hrel
      by_cases hlt : k < n
      · obtain ⟨p, o, v1, rfl, -, hc, hr1⟩ := H4.out k hlt
        obtain ⟨p', o', v2, rfl, -, hc', hr2⟩ := K4.out k hlt
        have g1 := World.block_lt_of_cell? w _ hc
        have g2 := World.block_lt_of_cell? w _ hc'
        have c1 := (hB.cell g1).trans hc
        have c2 := (hB.cell g2).trans hc'
        have R1 := Lib.hid (intsE.rd_of (hB.mono hB1) hr1); clear hr1
        have R2 := Lib.hid (intsE.rd_of (hB.mono hB2) hr2); clear hr2
        clear hc hc' g1 g2
        obtain ⟨x, hx⟩ : ∃ x, x = la[k]?.getD default := ⟨_, rfl⟩
        obtain ⟨y, hy⟩ : ∃ y, y = lb[k]?.getD default := ⟨_, rfl⟩
        rw [← hx] at R1
        rw [← hy] at R2
        have HX : Hid (x = la[k]?.getD []) := Lib.hid hx; clear hx
        have HY : Hid (y = lb[k]?.getD []) := Lib.hid hy; clear hy
        go_wp2_with fail
        refine (Hf.out _ _ x y _ hB R1.out R2.out).mono ?_
        rintro e w1 ⟨rfl, hbl⟩
        have B1 := Lib.hid (hB.trans (hbl.mono hB.size)); clear hB hbl
        by_cases he : x = y
        · have ht : decide (x = y) = true := decide_eq_true he
          rw [ht]
          have He := Lib.hid he; clear he
          go_wp2
          go_roundw
          case rel => exact ⟨k + 1, by omega, by go_num, B1.out, Lib.hid (fun i hi => by by_cases h : i = k; (subst h; rw [← HX.out, ← HY.out]; exact He.out); exact HE.out i (by omega))⟩
          case measure => simp [intOf]; omega
        · have ht : decide (x = y) = false := decide_eq_false he
          rw [ht]
          have He := Lib.hid he; clear he
          go_wp2
          go_ret
          have : la ≠ lb := fun e => He.out (by rw [HX.out, HY.out, e])
          exact ⟨by simp [this], B1.out⟩
      · obtain rfl : k = n := by omega
        go_wp2
        go_ret
        have : la = lb := ext_getD [] (by rw [← Hn.out, Hl.out]) (fun i hi => HE.out i (by rw [Hn.out]; exact hi))
        exact ⟨by simp [this], hB⟩
  · have hb := bne_len hlen
    have : la ≠ lb := fun e => hlen (by rw [e])
    have Ht := Lib.hid this; clear this
    go_enter Try.func24, Try.ntmps24
    go_wp2
    go_ret
    exact ⟨by simp [Ht.out], Below.refl _ _⟩

theorem sEqFInts_eq (va vb : Value) (la lb : List (List Int)) (B B' : Nat) (w : World) (hB1 : B ≤ w.heap.size) (hB2 : B' ≤ w.heap.size) (ha : intssE.rd w B [va] la) (hb : intssE.rd w B' [vb] lb) :
    Calls Try.prog 24 #[va, vb, .func (.func 23) #[] #[]] w (Gives (.bool (decide (la = lb))) w) :=
  sEqFInts_any va vb la lb B B' w 23 hB1 hB2 ha hb (fun _ _ => by kernel_rfl) (fun x y l m w1 hb1 hx hy => sEqInts_any x y l m B B' w1 hx hy)

theorem sEqFInts_is (r : Bool) (va vb : Value) (la lb : List (List Int)) (B B' : Nat) (w : World) (hB1 : B ≤ w.heap.size) (hB2 : B' ≤ w.heap.size) (hr : decide (la = lb) = r) (ha : intssE.rd w B [va] la) (hb : intssE.rd w B' [vb] lb) :
    Calls Try.prog 24 #[va, vb, .func (.func 23) #[] #[]] w (Gives (.bool r) w) := hr ▸ sEqFInts_eq va vb la lb B B' w hB1 hB2 ha hb

end Go.Proofs.Ytaaiabfhnfjlpaa
