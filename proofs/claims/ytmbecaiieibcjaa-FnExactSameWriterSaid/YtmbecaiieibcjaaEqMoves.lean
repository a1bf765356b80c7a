/-
  The comparisons of lists of a turner's moves, and of lists of these (written by a program of this claim's own, gen_eq.py).
-/
import Derived.Laws.StructEq
import Derived.Test.YtmbecaiieibcjaaLMoveSS
namespace Go.Proofs.Ytmbecaiieibcjaa
open Go.RowKit

set_option maxHeartbeats 1000000 in
theorem sEqMoves_any (va vb : Value) (la lb : List Move) (B B' : Nat) (w : World) (ha : movesE.rd w B [va] la) (hb : movesE.rd w B' [vb] lb) :
    Calls Try.prog 43 #[va, vb] w (Gives (.bool (decide (la = lb))) w) := by
  obtain ⟨a, ca, rfl, a1, a2, -, a4⟩ := rd_movesE ha
  obtain ⟨b, cb, rfl, b1, b2, -, b4⟩ := rd_movesE hb
  clear ha hb
  have H4 := Lib.hid a4; clear a4
  have K4 := Lib.hid b4; clear b4
  by_cases hlen : la.length = lb.length
  · obtain ⟨n, hn⟩ : ∃ n, n = la.length := ⟨_, rfl⟩
    rw [← hn] at hlen H4 a1 ⊢
    rw [← hlen] at K4 b1 ⊢
    have Hn := Lib.hid hn; clear hn
    have Hl := Lib.hid hlen; clear hlen
    go_enter Try.func43, Try.ntmps43
    go_wp2
    go_loopw [5, 13] (fun _ i wr => ∃ k : Nat, k ≤ n ∧ i = .int .i64 k ∧ Below w.heap.size w wr ∧ Hid (∀ i, i < k → la[i]?.getD default = lb[i]?.getD default)) (fun _ i _ => n - (intOf i).toNat)
    case atStart => exact ⟨0, by omega, rfl, Below.refl _ _, Lib.hid (fun i hi => absurd hi (by omega))⟩
    case round =>
      obtain ⟨k, hk, rfl, hB, HE⟩ := hrel
      by_cases hlt : k < n
      · obtain ⟨p, o, rfl, -, ⟨hp0, hp1⟩, -⟩ := H4.out k hlt
        obtain ⟨p', o', rfl, -, ⟨hq0, hq1⟩, -⟩ := K4.out k hlt
        have p0 := (hB.cell (World.block_lt_of_cell? w _ hp0)).trans hp0
        have p1 := (hB.cell (World.block_lt_of_cell? w _ hp1)).trans hp1
        have q0 := (hB.cell (World.block_lt_of_cell? w _ hq0)).trans hq0
        have q1 := (hB.cell (World.block_lt_of_cell? w _ hq1)).trans hq1
        have g1 : p < wr.heap.size := World.block_lt_of_cell? wr _ p0
        have g2 : p' < wr.heap.size := World.block_lt_of_cell? wr _ q0
        have st : Try.prog.stoodInHeld 75 = false := by kernel_rfl
        have sg : Try.prog.eqGuardType Try.prog.depth 75 = false := by kernel_rfl
        clear hp0 hp1 hq0 hq1
        generalize hx : la[k]?.getD default = x at *
        generalize hy : lb[k]?.getD default = y at *
        have HX := Lib.hid hx; have HY := Lib.hid hy; clear hx hy
        by_cases f0 : x.to = y.to
        case neg =>
          have e0 : (x.to == y.to) = false := by simp [f0]
          have He := Lib.hid f0; clear f0
          go_wp2
          go_quiet (fail)
          go_wp2
          go_ret
          have : la ≠ lb := fun e => He.out (by rw [← HX.out, ← HY.out, e])
          exact ⟨by simp [this], below_drewN hB _⟩
        have e0 : (x.to == y.to) = true := by simp [f0]
        have F0 := Lib.hid f0; clear f0
        by_cases f1 : x.dir = y.dir
        case neg =>
          have e1 : (x.dir == y.dir) = false := by simp [f1]
          have He := Lib.hid f1; clear f1
          go_wp2
          go_quiet (fail)
          go_wp2
          go_ret
          have : la ≠ lb := fun e => He.out (by rw [← HX.out, ← HY.out, e])
          exact ⟨by simp [this], below_drewN hB _⟩
        have e1 : (x.dir == y.dir) = true := by simp [f1]
        have F1 := Lib.hid f1; clear f1
        have He : Hid (x = y) := Lib.hid (by cases x; cases y; have := F0.out ; have := F1.out; simp_all)
        go_wp2
        go_quiet (fail)
        go_wp2
        go_roundw
        case rel => exact ⟨k + 1, by omega, by go_num, below_drewN hB _, Lib.hid (fun i hi => by by_cases h : i = k; (subst h; rw [HX.out, HY.out]; exact He.out); exact HE.out i (by omega))⟩
        case measure => simp [intOf]; omega
      · obtain rfl : k = n := by omega
        go_wp2
        go_ret
        have : la = lb := ext_getD default (by rw [← Hn.out, Hl.out]) (fun i hi => HE.out i (by rw [Hn.out]; exact hi))
        exact ⟨by simp [this], hB⟩
  · have hb := bne_len hlen
    have : la ≠ lb := fun e => hlen (by rw [e])
    have Ht := Lib.hid this; clear this
    go_enter Try.func43, Try.ntmps43
    go_wp2
    go_ret
    exact ⟨by simp [Ht.out], Below.refl _ _⟩

theorem sEqMoves_is (r : Bool) (va vb : Value) (la lb : List Move) (B B' : Nat) (w : World) (hr : decide (la = lb) = r) (ha : movesE.rd w B [va] la) (hb : movesE.rd w B' [vb] lb) :
    Calls Try.prog 43 #[va, vb] w (Gives (.bool r) w) := hr ▸ sEqMoves_any va vb la lb B B' w ha hb

set_option maxHeartbeats 400000 in
theorem sEqFMoves_any (va vb : Value) (la lb : List (List Move)) (B B' : Nat) (w : World) (f : FuncId) (hB1 : B ≤ w.heap.size) (hB2 : B' ≤ w.heap.size) (ha : movessE.rd w B [va] la) (hb : movessE.rd w B' [vb] lb)
    (hcf : ∀ args w1, (callFunc f args).run Try.prog w1 = .ok (.enter f args) w1)
    (hf : ∀ x y l m w1, Below w.heap.size w w1 → movesE.rd w1 B [x] l → movesE.rd w1 B' [y] m → Calls Try.prog f #[x, y] w1 (Gives (.bool (decide (l = m))) w1)) :
    Calls Try.prog 42 #[va, vb, .func (.func f) #[] #[]] w (Gives (.bool (decide (la = lb))) w) := by
  obtain ⟨a, ca, rfl, a1, a2, -, a4⟩ := rd_slice1 rfl ha
  obtain ⟨b, cb, rfl, b1, b2, -, b4⟩ := rd_slice1 rfl hb
  clear ha hb
  have H4 := Lib.hid a4; clear a4
  have K4 := Lib.hid b4; clear b4
  have Hf := Lib.hid hf; clear hf
  by_cases hlen : la.length = lb.length
  · obtain ⟨n, hn⟩ : ∃ n, n = la.length := ⟨_, rfl⟩
    rw [← hn] at hlen H4 a1 ⊢
    rw [← hlen] at K4 b1 ⊢
    have Hn := Lib.hid hn; clear hn
    have Hl := Lib.hid hlen; clear hlen
    go_enter Try.func42, Try.ntmps42
    go_wp2
    go_loopw [7, 8, 9, 17] (fun _ _ _ i wr => ∃ k : Nat, k ≤ n ∧ i = .int .i64 k ∧ Below w.heap.size w wr ∧ Hid (∀ i, i < k → la[i]?.getD [] = lb[i]?.getD [])) (fun _ _ _ i _ => n - (intOf i).toNat)
    case atStart => exact ⟨0, by omega, rfl, Below.refl _ _, Lib.hid (fun i hi => absurd hi (by omega))⟩
    case round =>
      obtain ⟨k, hk, rfl, hB, HE⟩ := hrel
      by_cases hlt : k < n
      · obtain ⟨p, o, v1, rfl, -, hc, hr1⟩ := H4.out k hlt
        obtain ⟨p', o', v2, rfl, -, hc', hr2⟩ := K4.out k hlt
        have g1 := World.block_lt_of_cell? w _ hc
        have g2 := World.block_lt_of_cell? w _ hc'
        have c1 := (hB.cell g1).trans hc
        have c2 := (hB.cell g2).trans hc'
        have R1 := Lib.hid (movesE.rd_of (hB.mono hB1) hr1); clear hr1
        have R2 := Lib.hid (movesE.rd_of (hB.mono hB2) hr2); clear hr2
        clear hc hc' g1 g2
        obtain ⟨x, hx⟩ : ∃ x, x = la[k]?.getD default := ⟨_, rfl⟩
        obtain ⟨y, hy⟩ : ∃ y, y = lb[k]?.getD default := ⟨_, rfl⟩
        rw [← hx] at R1
        rw [← hy] at R2
        have HX : Hid (x = la[k]?.getD []) := Lib.hid hx; clear hx
        have HY : Hid (y = lb[k]?.getD []) := Lib.hid hy; clear hy
        go_wp2_with fail
        refine (Hf.out _ _ x y _ hB R1.out R2.out).mono ?_
        rintro e w1 ⟨rfl, hbl⟩
        have B1 := Lib.hid (hB.trans (hbl.mono hB.size)); clear hB hbl
        by_cases he : x = y
        · have ht : decide (x = y) = true := decide_eq_true he
          rw [ht]
          have He := Lib.hid he; clear he
          go_wp2
          go_roundw
          case rel => exact ⟨k + 1, by omega, by go_num, B1.out, Lib.hid (fun i hi => by by_cases h : i = k; (subst h; rw [← HX.out, ← HY.out]; exact He.out); exact HE.out i (by omega))⟩
          case measure => simp [intOf]; omega
        · have ht : decide (x = y) = false := decide_eq_false he
          rw [ht]
          have He := Lib.hid he; clear he
          go_wp2
          go_ret
          have : la ≠ lb := fun e => He.out (by rw [HX.out, HY.out, e])
          exact ⟨by simp [this], B1.out⟩
      · obtain rfl : k = n := by omega
        go_wp2
        go_ret
        have : la = lb := ext_getD [] (by rw [← Hn.out, Hl.out]) (fun i hi => HE.out i (by rw [Hn.out]; exact hi))
        exact ⟨by simp [this], hB⟩
  · have hb := bne_len hlen
    have : la ≠ lb := fun e => hlen (by rw [e])
    have Ht := Lib.hid this; clear this
    go_enter Try.func42, Try.ntmps42
    go_wp2
    go_ret
    exact ⟨by simp [Ht.out], Below.refl _ _⟩

theorem sEqFMoves_eq (va vb : Value) (la lb : List (List Move)) (B B' : Nat) (w : World) (hB1 : B ≤ w.heap.size) (hB2 : B' ≤ w.heap.size) (ha : movessE.rd w B [va] la) (hb : movessE.rd w B' [vb] lb) :
    Calls Try.prog 42 #[va, vb, .func (.func 43) #[] #[]] w (Gives (.bool (decide (la = lb))) w) :=
  sEqFMoves_any va vb la lb B B' w 43 hB1 hB2 ha hb (fun _ _ => by kernel_rfl) (fun x y l m w1 hb1 hx hy => sEqMoves_any x y l m B B' w1 hx hy)

theorem sEqFMoves_is (r : Bool) (va vb : Value) (la lb : List (List Move)) (B B' : Nat) (w : World) (hB1 : B ≤ w.heap.size) (hB2 : B' ≤ w.heap.size) (hr : decide (la = lb) = r) (ha : movessE.rd w B [va] la) (hb : movessE.rd w B' [vb] lb) :
    Calls Try.prog 42 #[va, vb, .func (.func 43) #[] #[]] w (Gives (.bool r) w) := hr ▸ sEqFMoves_eq va vb la lb B B' w hB1 hB2 ha hb

end Go.Proofs.Ytmbecaiieibcjaa
