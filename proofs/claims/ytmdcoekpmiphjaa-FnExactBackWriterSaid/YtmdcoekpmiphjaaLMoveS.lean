/-
  Contracts of the laws' own helpers at one slice type (written by a program of this claim's own, gen_leaf.py).
-/
import Derived.Test.YtmdcoekpmiphjaaRows
import Derived.Test.YtmdcoekpmiphjaaLeafA
namespace Go.Proofs.Ytmdcoekpmiphjaa
open Go.RowKit

/-- The cells of one. -/
def cMove (x : Move) : List Value := [.int .i64 x.to, .int .i64 x.dir]

def bdMove (x : Move) : Prop := (-9223372036854775808 ≤ x.to ∧ x.to ≤ 9223372036854775807) ∧ (-9223372036854775808 ≤ x.dir ∧ x.dir ≤ 9223372036854775807)

theorem rd_moveE {w : World} {B : Nat} {cs : List Value} {x : Move} (h : moveE.rd w B cs x) : cs = cMove x ∧ bdMove x := by
  obtain ⟨c0, c1, rfl, ⟨rfl, b0⟩, ⟨rfl, b1⟩⟩ := h
  exact ⟨rfl, b0, b1⟩

theorem ow_moveE {w : World} {x : Move} (h : bdMove x) : moveE.ow w (cMove x) x [] := by
  obtain ⟨b0, b1⟩ := h
  exact ⟨_, _, [], [], rfl, rfl, ⟨⟨rfl, b0⟩, rfl⟩, ⟨⟨rfl, b1⟩, rfl⟩⟩

theorem ow_moveE_inv {w : World} {cs : List Value} {x : Move} {f : List Nat} (h : moveE.ow w cs x f) : cs = cMove x ∧ f = [] ∧ bdMove x := by
  have := rd_moveE (moveE.ow_rd (B := w.heap.size) (moveE.ow_lt h) h)
  obtain ⟨_, _, _, _, rfl, rfl, ⟨⟨_, _⟩, rfl⟩, ⟨⟨_, _⟩, rfl⟩⟩ := h
  exact ⟨this.1, rfl, this.2⟩

theorem rd_movesE {ty : TypeId} {w : World} {B : Nat} {v : Value} {l : List Move} (h : (sliceE moveE ty).rd w B [v] l) :
    ∃ a cap, v = .slice a l.length cap ∧ l.length ≤ cap ∧ cap ≤ 9223372036854775807 ∧ (a = none → cap = 0) ∧
      ∀ k, k < l.length → ∃ b o, a = some ⟨b, o, none⟩ ∧ b < B ∧ (w.cell? ⟨b, o + k * 2, none⟩ = some (.int .i64 (l[k]?.getD default).to) ∧ w.cell? ⟨b, o + k * 2 + 1, none⟩ = some (.int .i64 (l[k]?.getD default).dir)) ∧ bdMove (l[k]?.getD default) := by
  obtain ⟨a, cap, hv, h1, h2, h3, h4⟩ := h
  obtain rfl : v = .slice a l.length cap := by simpa using hv
  refine ⟨a, cap, rfl, h1, by simpa [maxLen] using h2, h3, fun k hk => ?_⟩
  obtain ⟨b, o, xs, e1, e2, e3, e4⟩ := h4 k _ (get_some default hk)
  obtain ⟨rfl, e5⟩ := rd_moveE e3
  have hs : moveE.size = 2 := rfl
  rw [hs] at e4
  exact ⟨b, o, e1, e2, ⟨by have := e4 0 _ rfl; simpa [Nat.add_assoc] using this, by have := e4 1 _ rfl; simpa [Nat.add_assoc] using this⟩, e5⟩

set_option maxHeartbeats 400000 in
theorem eqMove_0 (x0 x1 y0 y1 : Int) (w : World) (e0 : ¬ x0 = y0) : Calls Try.prog 64 #[.agg #[.int .i64 x0, .int .i64 x1], .agg #[.int .i64 y0, .int .i64 y1]] w (Gives (.bool false) w) := by
  have t0 : (x0 != y0) = true := by simp [e0]
  clear e0
  go_enter Try.func64, Try.ntmps64
  go_wp2
  go_ret
  exact ⟨rfl, ((Below.refl _ _).alloc (Nat.le_refl _) _).alloc (by simp) _⟩

set_option maxHeartbeats 400000 in
theorem eqMove_1 (x0 x1 y0 y1 : Int) (w : World) (e0 : x0 = y0) (e1 : ¬ x1 = y1) : Calls Try.prog 64 #[.agg #[.int .i64 x0, .int .i64 x1], .agg #[.int .i64 y0, .int .i64 y1]] w (Gives (.bool false) w) := by
  have t0 : (x0 != y0) = false := by simp [e0]
  clear e0
  have t1 : (x1 != y1) = true := by simp [e1]
  clear e1
  go_enter Try.func64, Try.ntmps64
  go_wp2
  go_ret
  exact ⟨rfl, ((Below.refl _ _).alloc (Nat.le_refl _) _).alloc (by simp) _⟩

set_option maxHeartbeats 400000 in
theorem eqMove_2 (x0 x1 y0 y1 : Int) (w : World) (e0 : x0 = y0) (e1 : x1 = y1) : Calls Try.prog 64 #[.agg #[.int .i64 x0, .int .i64 x1], .agg #[.int .i64 y0, .int .i64 y1]] w (Gives (.bool true) w) := by
  have t0 : (x0 != y0) = false := by simp [e0]
  clear e0
  have t1 : (x1 != y1) = false := by simp [e1]
  clear e1
  go_enter Try.func64, Try.ntmps64
  go_wp2
  go_ret
  exact ⟨rfl, ((Below.refl _ _).alloc (Nat.le_refl _) _).alloc (by simp) _⟩

theorem eqMove_any (x y : Move) (w : World) : Calls Try.prog 64 #[.agg #[.int .i64 x.to, .int .i64 x.dir], .agg #[.int .i64 y.to, .int .i64 y.dir]] w (Gives (.bool (decide (x = y))) w) := by
  obtain ⟨x0, x1⟩ := x
  obtain ⟨y0, y1⟩ := y
  dsimp only
  by_cases e0 : x0 = y0
  case neg => rw [decide_eq_false (fun e => e0 (by injection e))]; exact eqMove_0 _ _ _ _ w e0
  by_cases e1 : x1 = y1
  case neg => rw [decide_eq_false (fun e => e1 (by injection e))]; exact eqMove_1 _ _ _ _ w e0 e1
  rw [decide_eq_true (by rw [e0, e1])]; exact eqMove_2 _ _ _ _ w e0 e1

theorem eqMove_is (r : Bool) (x y : Move) (w : World) (h : decide (x = y) = r) : Calls Try.prog 64 #[.agg #[.int .i64 x.to, .int .i64 x.dir], .agg #[.int .i64 y.to, .int .i64 y.dir]] w (Gives (.bool r) w) := h ▸ eqMove_any x y w

theorem info_MoveS : (Try.prog.info? 50).map (fun i => (i.zero, i.size, i.bytes)) = some (some (.agg #[.int .i64 0, .int .i64 0]), 2, 16) := by kernel_rfl

set_option maxHeartbeats 1000000 in
theorem eqMoveS_any (va vb : Value) (la lb : List Move) (B B' : Nat) (w : World) (ha : movesE.rd w B [va] la) (hb : movesE.rd w B' [vb] lb) :
    Calls Try.prog 49 #[va, vb] w (Gives (.bool (decide (la = lb))) w) := by
  obtain ⟨a, ca, rfl, a1, a2, -, a4⟩ := rd_movesE ha
  obtain ⟨b, cb, rfl, b1, b2, -, b4⟩ := rd_movesE hb
  clear ha hb
  have H4 := Lib.hid a4; clear a4
  have K4 := Lib.hid b4; clear b4
  by_cases hlen : la.length = lb.length
  · obtain ⟨n, hn⟩ : ∃ n, n = la.length := ⟨_, rfl⟩
    rw [← hn] at hlen H4 a1 ⊢
    rw [← hlen] at K4 b1 ⊢
    have Hn := Lib.hid hn; clear hn
    have Hl := Lib.hid hlen; clear hlen
    go_enter Try.func49, Try.ntmps49
    go_wp2
    go_loopw [5] (fun i wr => ∃ k : Nat, k ≤ n ∧ i = .int .i64 k ∧ Below w.heap.size w wr ∧ Hid (∀ i, i < k → la[i]?.getD default = lb[i]?.getD default)) (fun i _ => n - (intOf i).toNat)
    case atStart => exact ⟨0, by omega, rfl, Below.refl _ _, Lib.hid (fun i hi => absurd hi (by omega))⟩
    case round =>
      obtain ⟨k, hk, rfl, hB, HE⟩ := hrel
      by_cases hlt : k < n
      · obtain ⟨p, o, rfl, -, ⟨hp0, hp1⟩, -⟩ := H4.out k hlt
        obtain ⟨p', o', rfl, -, ⟨hq0, hq1⟩, -⟩ := K4.out k hlt
        have p0 := (hB.cell (World.block_lt_of_cell? w _ hp0)).trans hp0
        have p1 := (hB.cell (World.block_lt_of_cell? w _ hp1)).trans hp1
        have q0 := (hB.cell (World.block_lt_of_cell? w _ hq0)).trans hq0
        have q1 := (hB.cell (World.block_lt_of_cell? w _ hq1)).trans hq1
        have g1 : p < wr.heap.size := World.block_lt_of_cell? wr _ p0
        have g2 : p' < wr.heap.size := World.block_lt_of_cell? wr _ q0
        have hov := cell_over wr
        clear hp0 hp1 hq0 hq1
        generalize hx : la[k]?.getD default = x at *
        generalize hy : lb[k]?.getD default = y at *
        have HX := Lib.hid hx; have HY := Lib.hid hy; clear hx hy
        by_cases he : x = y
        · have He := Lib.hid he; clear he
          go_wp2
          refine wp_region_over (by kernel_rfl) (by kernel_rfl) ?_
          repeat (go_big_quiet_step ((go_at_call 64; exact calls_over (eqMove_is true x y _ (decide_eq_true He.out)))))
          refine wpQuiet_nil ?_
          intro w1 hw1
          go_wp2
          go_roundw
          case rel => exact ⟨k + 1, by omega, by go_num, hB.trans (hw1.mono hB.size), Lib.hid (fun i hi => by by_cases h : i = k; (subst h; rw [HX.out, HY.out]; exact He.out); exact HE.out i (by omega))⟩
          case measure => simp [intOf]; omega
        · have He := Lib.hid he; clear he
          go_wp2
          refine wp_region_over (by kernel_rfl) (by kernel_rfl) ?_
          repeat (go_big_quiet_step ((go_at_call 64; exact calls_over (eqMove_is false x y _ (decide_eq_false He.out)))))
          refine wpQuiet_nil ?_
          intro w1 hw1
          go_wp2
          go_ret
          have : la ≠ lb := fun e => He.out (by rw [← HX.out, ← HY.out, e])
          exact ⟨by simp [this], hB.trans (hw1.mono hB.size)⟩
      · obtain rfl : k = n := by omega
        go_wp2
        go_ret
        have : la = lb := ext_getD default (by rw [← Hn.out, Hl.out]) (fun i hi => HE.out i (by rw [Hn.out]; exact hi))
        exact ⟨by simp [this], hB⟩
  · have hb := bne_len hlen
    have : la ≠ lb := fun e => hlen (by rw [e])
    have Ht := Lib.hid this; clear this
    go_enter Try.func49, Try.ntmps49
    go_wp2
    go_ret
    exact ⟨by simp [Ht.out], Below.refl _ _⟩

theorem eqMoveS_is (r : Bool) (va vb : Value) (la lb : List Move) (B B' : Nat) (w : World) (hr : decide (la = lb) = r) (ha : movesE.rd w B [va] la) (hb : movesE.rd w B' [vb] lb) :
    Calls Try.prog 49 #[va, vb] w (Gives (.bool r) w) := hr ▸ eqMoveS_any va vb la lb B B' w ha hb

end Go.Proofs.Ytmdcoekpmiphjaa
