/-
  Contracts of the laws' own helpers at one slice type (written by a program of this claim's own, gen_leaf.py).
-/
import Derived.Test.YtnkhgfdlehhjmaaDoorRows
import Derived.Test.YtnkhgfdlehhjmaaDoorLeafAK
namespace Go.Proofs.YtnkhgfdlehhjmaaDoor
open Go.RowKit

/-- The cells of one. -/
def cMove (x : Move) : List Value := [.int .i64 x.to, .int .i64 x.dir]

def bdMove (x : Move) : Prop := (-9223372036854775808 ≤ x.to ∧ x.to ≤ 9223372036854775807) ∧ (-9223372036854775808 ≤ x.dir ∧ x.dir ≤ 9223372036854775807)

theorem rd_moveE {w : World} {B : Nat} {cs : List Value} {x : Move} (h : moveE.rd w B cs x) : cs = cMove x ∧ bdMove x := by
  obtain ⟨c0, c1, rfl, ⟨rfl, b0⟩, ⟨rfl, b1⟩⟩ := h
  exact ⟨rfl, b0, b1⟩

theorem ow_moveE {w : World} {x : Move} (h : bdMove x) : moveE.ow w (cMove x) x [] := by
  obtain ⟨b0, b1⟩ := h
  exact ⟨_, _, [], [], rfl, rfl, ⟨⟨rfl, b0⟩, rfl⟩, ⟨⟨rfl, b1⟩, rfl⟩⟩

theorem ow_moveE_inv {w : World} {cs : List Value} {x : Move} {f : List Nat} (h : moveE.ow w cs x f) : cs = cMove x ∧ f = [] ∧ bdMove x := by
  have := rd_moveE (moveE.ow_rd (B := w.heap.size) (moveE.ow_lt h) h)
  obtain ⟨_, _, _, _, rfl, rfl, ⟨⟨_, _⟩, rfl⟩, ⟨⟨_, _⟩, rfl⟩⟩ := h
  exact ⟨this.1, rfl, this.2⟩

theorem rd_movesE {ty : TypeId} {w : World} {B : Nat} {v : Value} {l : List Move} (h : (sliceE moveE ty).rd w B [v] l) :
    ∃ a cap, v = .slice a l.length cap ∧ l.length ≤ cap ∧ cap ≤ 9223372036854775807 ∧ (a = none → cap = 0) ∧
      ∀ k, k < l.length → ∃ b o, a = some ⟨b, o, none⟩ ∧ b < B ∧ (w.cell? ⟨b, o + k * 2, none⟩ = some (.int .i64 (l[k]?.getD default).to) ∧ w.cell? ⟨b, o + k * 2 + 1, none⟩ = some (.int .i64 (l[k]?.getD default).dir)) ∧ bdMove (l[k]?.getD default) := by
  obtain ⟨a, cap, hv, h1, h2, h3, h4⟩ := h
  obtain rfl : v = .slice a l.length cap := by simpa using hv
  refine ⟨a, cap, rfl, h1, by simpa [maxLen] using h2, h3, fun k hk => ?_⟩
  obtain ⟨b, o, xs, e1, e2, e3, e4⟩ := h4 k _ (get_some default hk)
  obtain ⟨rfl, e5⟩ := rd_moveE e3
  have hs : moveE.size = 2 := rfl
  rw [hs] at e4
  exact ⟨b, o, e1, e2, ⟨by have := e4 0 _ rfl; simpa [Nat.add_assoc] using this, by have := e4 1 _ rfl; simpa [Nat.add_assoc] using this⟩, e5⟩

set_option maxHeartbeats 400000 in
theorem toMove_any (x : Move) (w : World) : Calls Tryd.prog 88 #[.agg #[.int .i64 x.to, .int .i64 x.dir]] w (Gives (.agg #[.int .i64 x.to, .int .i64 x.dir]) w) := by
  obtain ⟨x0, x1⟩ := x
  dsimp only
  go_enter Tryd.func88, Tryd.ntmps88
  go_wp2
  refine bodyPost_ret (v := .agg #[.int .i64 x0, .int .i64 x1]) (by simp [results, Tryd.results88, go_sem]) rfl ⟨rfl, ?_⟩
  exact (((Below.refl _ _).alloc (Nat.le_refl _) _).alloc (by simp) _).alloc (by simp only [World.size_alloc]; omega) _

set_option maxHeartbeats 400000 in
theorem eqMove_0 (x0 x1 y0 y1 : Int) (w : World) (e0 : ¬ x0 = y0) : Calls Tryd.prog 98 #[.agg #[.int .i64 x0, .int .i64 x1], .agg #[.int .i64 y0, .int .i64 y1]] w (Gives (.bool false) w) := by
  have t0 : (x0 != y0) = true := by simp [e0]
  clear e0
  go_enter Tryd.func98, Tryd.ntmps98
  go_wp2
  go_ret
  exact ⟨rfl, ((Below.refl _ _).alloc (Nat.le_refl _) _).alloc (by simp) _⟩

set_option maxHeartbeats 400000 in
theorem eqMove_1 (x0 x1 y0 y1 : Int) (w : World) (e0 : x0 = y0) (e1 : ¬ x1 = y1) : Calls Tryd.prog 98 #[.agg #[.int .i64 x0, .int .i64 x1], .agg #[.int .i64 y0, .int .i64 y1]] w (Gives (.bool false) w) := by
  have t0 : (x0 != y0) = false := by simp [e0]
  clear e0
  have t1 : (x1 != y1) = true := by simp [e1]
  clear e1
  go_enter Tryd.func98, Tryd.ntmps98
  go_wp2
  go_ret
  exact ⟨rfl, ((Below.refl _ _).alloc (Nat.le_refl _) _).alloc (by simp) _⟩

set_option maxHeartbeats 400000 in
theorem eqMove_2 (x0 x1 y0 y1 : Int) (w : World) (e0 : x0 = y0) (e1 : x1 = y1) : Calls Tryd.prog 98 #[.agg #[.int .i64 x0, .int .i64 x1], .agg #[.int .i64 y0, .int .i64 y1]] w (Gives (.bool true) w) := by
  have t0 : (x0 != y0) = false := by simp [e0]
  clear e0
  have t1 : (x1 != y1) = false := by simp [e1]
  clear e1
  go_enter Tryd.func98, Tryd.ntmps98
  go_wp2
  go_ret
  exact ⟨rfl, ((Below.refl _ _).alloc (Nat.le_refl _) _).alloc (by simp) _⟩

theorem eqMove_any (x y : Move) (w : World) : Calls Tryd.prog 98 #[.agg #[.int .i64 x.to, .int .i64 x.dir], .agg #[.int .i64 y.to, .int .i64 y.dir]] w (Gives (.bool (decide (x = y))) w) := by
  obtain ⟨x0, x1⟩ := x
  obtain ⟨y0, y1⟩ := y
  dsimp only
  by_cases e0 : x0 = y0
  case neg => rw [decide_eq_false (fun e => e0 (by injection e))]; exact eqMove_0 _ _ _ _ w e0
  by_cases e1 : x1 = y1
  case neg => rw [decide_eq_false (fun e => e1 (by injection e))]; exact eqMove_1 _ _ _ _ w e0 e1
  rw [decide_eq_true (by rw [e0, e1])]; exact eqMove_2 _ _ _ _ w e0 e1

theorem eqMove_is (r : Bool) (x y : Move) (w : World) (h : decide (x = y) = r) : Calls Tryd.prog 98 #[.agg #[.int .i64 x.to, .int .i64 x.dir], .agg #[.int .i64 y.to, .int .i64 y.dir]] w (Gives (.bool r) w) := h ▸ eqMove_any x y w

theorem info_MoveS : (Tryd.prog.info? 65).map (fun i => (i.zero, i.size, i.bytes)) = some (some (.agg #[.int .i64 0, .int .i64 0]), 2, 16) := by kernel_rfl

set_option maxHeartbeats 1000000 in
theorem toMoveS_any (v : Value) (l : List Move) (B : Nat) (w : World) (hB0 : B ≤ w.heap.size) (h : movesE.rd w B [v] l) (hl : l.length ≤ 1048576) :
    Calls Tryd.prog 72 #[v] w (Makes movesE id l w) := by
  obtain ⟨a, cap, rfl, h1, h2, h3, h4⟩ := rd_movesE h
  obtain ⟨i0, hi, hz0, hz1, hz2⟩ := info_parts info_MoveS
  obtain ⟨n, hn⟩ : ∃ n, n = l.length := ⟨_, rfl⟩
  rw [← hn] at hl h4 h1 ⊢
  have hmk := make_runs (P := Tryd.prog) Tryd.underlying66 hi hz0 hz1 n (by rw [hz2]; omega) (by omega)
  have hmo := made_owns2 (w := w) (ty := 65) #[.int .i64 0, .int .i64 0] (.int .i64 0) 2 rfl (by intro i hi; match i, hi with | 0, _ => rfl | 1, _ => rfl) (by decide) n (by simp [maxLen]; omega)
  have Hn := Lib.hid hn; clear hn h
  have H4 := Lib.hid h4; clear h4
  have Hmo := Lib.hid hmo; clear hmo
  clear hi hz0 hz1 hz2
  go_enter Tryd.func72, Tryd.ntmps72
  go_wp2
  simp only [Value.cells] at *
  have hb0 : Below w.heap.size w (w.alloc (Obj.cells (madeCells #[Value.int IntKind.i64 0, Value.int IntKind.i64 0] (n * 2)) 65)) := (Below.refl _ _).alloc (Nat.le_refl _) _
  have HB0 := Lib.hid hb0; clear hb0
  generalize w.alloc (Obj.cells (madeCells #[Value.int IntKind.i64 0, Value.int IntKind.i64 0] (n * 2)) 65) = w1 at *
  obtain ⟨g, hg⟩ : ∃ g, g = w.heap.size := ⟨_, rfl⟩
  rw [← hg] at Hmo HB0 ⊢
  have Hg := Lib.hid hg; clear hg hmk
  go_loopw [4] (fun i wr => ∃ k : Nat, k ≤ n ∧ i = .int .i64 k ∧ Below g w wr ∧ wr.ownsRow g 65 2 (.slice (some ⟨g, 0, none⟩) n n) n ((l.take k).flatMap cMove ++ List.replicate ((n - k) * 2) (.int .i64 0))) (fun i _ => n - (intOf i).toNat)
  case atStart => exact ⟨0, by omega, rfl, HB0.out, by simpa using Hmo.out⟩
  case round =>
    obtain ⟨k, hk, rfl, hB, hO⟩ := hrel
    by_cases hlt : k < n
    · obtain ⟨b, o, rfl, hb, ⟨hc0, hc1⟩, hbd⟩ := H4.out k hlt
      have hlen : ((l.take k).flatMap cMove).length = k * 2 := by rw [flatMap_len cMove 2 (fun _ => rfl)]; have := Hn.out; simp; omega
      have HX := Lib.hid (flatMap_take default cMove l k (by rw [← Hn.out]; exact hlt))
      generalize l[k]?.getD default = x at *
      have c10 := (hB.cell (by rw [Hg.out]; exact World.block_lt_of_cell? w _ hc0)).trans hc0
      have c11 := (hB.cell (by rw [Hg.out]; exact World.block_lt_of_cell? w _ hc1)).trans hc1
      have HO := Lib.hid hO
      have HLen := Lib.hid hlen
      clear hc0 hc1 hbd hO hlen
      go_wp2_with fail
      refine (toMove_any x _).mono ?_
      rintro e w2 ⟨rfl, hbl⟩
      have hO := ownsRow_below HO.out hbl
      have B2 := hB.trans (hbl.mono (by have := hB.size; rw [Hg.out]; omega))
      have hlen := HLen.out
      have z0 : w2.cell? ⟨g, k * 2, none⟩ = some (.int .i64 0) := by
        rw [hO.cellAt (k * 2) (by omega)]; have := tail_get ((l.take k).flatMap cMove) ((n - k) * 2) 0 (.int .i64 0) (by omega); rwa [hlen] at this
      have z1 : w2.cell? ⟨g, k * 2 + 1, none⟩ = some (.int .i64 0) := by
        rw [hO.cellAt (k * 2 + 1) (by omega)]; have := tail_get ((l.take k).flatMap cMove) ((n - k) * 2) 1 (.int .i64 0) (by omega); rwa [hlen] at this
      have f0 := hO.frozenAt (k * 2)
      have f1 := hO.frozenAt (k * 2 + 1)
      have HS := Lib.hid (((hO.stored (k * 2) (.int .i64 x.to)).1.stored (k * 2 + 1) (.int .i64 x.dir)).1)
      clear hO hbl hB hlen c10 c11
      go_wp2
      go_roundw
      case rel =>
        refine ⟨k + 1, by omega, by go_num, (B2.setCell (Nat.le_refl _) _).setCell (Nat.le_refl _) _, ?_⟩
        have hs := HS.out
        rw [show (n - k) * 2 = (n - (k + 1)) * 2 + 2 from by omega, ← HLen.out] at hs
        have hf := fill2 ((l.take k).flatMap cMove) ((n - (k + 1)) * 2) (.int .i64 0) (.int .i64 x.to) (.int .i64 x.dir)
        rw [hf] at hs
        rw [HX.out, HLen.out] at *
        exact hs
      case measure => simp [intOf]; omega
    · obtain rfl : k = n := by omega
      go_wp2
      go_ret
      rw [show l.take k = l from by rw [Hn.out, List.take_length], Nat.sub_self, Nat.zero_mul, List.replicate_zero, List.append_nil] at hO
      refine makes_flats (g := g) cMove (fun x hx => ?_) (by rw [← Hn.out]; exact hO) hB Hg.out
      obtain ⟨i, hi, rfl⟩ := List.getElem_of_mem hx
      obtain ⟨b, o, _, _, _, h5⟩ := H4.out i (by rw [Hn.out]; exact hi)
      simp only [List.getElem?_eq_getElem hi, Option.getD_some] at h5
      exact ow_moveE h5

set_option maxHeartbeats 1000000 in
theorem eqMoveS_any (va vb : Value) (la lb : List Move) (B B' : Nat) (w : World) (ha : movesE.rd w B [va] la) (hb : movesE.rd w B' [vb] lb) :
    Calls Tryd.prog 81 #[va, vb] w (Gives (.bool (decide (la = lb))) w) := by
  obtain ⟨a, ca, rfl, a1, a2, -, a4⟩ := rd_movesE ha
  obtain ⟨b, cb, rfl, b1, b2, -, b4⟩ := rd_movesE hb
  clear ha hb
  have H4 := Lib.hid a4; clear a4
  have K4 := Lib.hid b4; clear b4
  by_cases hlen : la.length = lb.length
  · obtain ⟨n, hn⟩ : ∃ n, n = la.length := ⟨_, rfl⟩
    rw [← hn] at hlen H4 a1 ⊢
    rw [← hlen] at K4 b1 ⊢
    have Hn := Lib.hid hn; clear hn
    have Hl := Lib.hid hlen; clear hlen
    go_enter Tryd.func81, Tryd.ntmps81
    go_wp2
    go_loopw [5] (fun i wr => ∃ k : Nat, k ≤ n ∧ i = .int .i64 k ∧ Below w.heap.size w wr ∧ Hid (∀ i, i < k → la[i]?.getD default = lb[i]?.getD default)) (fun i _ => n - (intOf i).toNat)
    case atStart => exact ⟨0, by omega, rfl, Below.refl _ _, Lib.hid (fun i hi => absurd hi (by omega))⟩
    case round =>
      obtain ⟨k, hk, rfl, hB, HE⟩ := hrel
      by_cases hlt : k < n
      · obtain ⟨p, o, rfl, -, ⟨hp0, hp1⟩, -⟩ := H4.out k hlt
        obtain ⟨p', o', rfl, -, ⟨hq0, hq1⟩, -⟩ := K4.out k hlt
        have p0 := (hB.cell (World.block_lt_of_cell? w _ hp0)).trans hp0
        have p1 := (hB.cell (World.block_lt_of_cell? w _ hp1)).trans hp1
        have q0 := (hB.cell (World.block_lt_of_cell? w _ hq0)).trans hq0
        have q1 := (hB.cell (World.block_lt_of_cell? w _ hq1)).trans hq1
        have g1 : p < wr.heap.size := World.block_lt_of_cell? wr _ p0
        have g2 : p' < wr.heap.size := World.block_lt_of_cell? wr _ q0
        have hov := cell_over wr
        clear hp0 hp1 hq0 hq1
        generalize hx : la[k]?.getD default = x at *
        generalize hy : lb[k]?.getD default = y at *
        have HX := Lib.hid hx; have HY := Lib.hid hy; clear hx hy
        by_cases he : x = y
        · have He := Lib.hid he; clear he
          go_wp2
          refine wp_region_over (by kernel_rfl) (by kernel_rfl) ?_
          repeat (go_big_quiet_step ((go_at_call 98; exact calls_over (eqMove_is true x y _ (decide_eq_true He.out)))))
          refine wpQuiet_nil ?_
          intro w1 hw1
          go_wp2
          go_roundw
          case rel => exact ⟨k + 1, by omega, by go_num, hB.trans (hw1.mono hB.size), Lib.hid (fun i hi => by by_cases h : i = k; (subst h; rw [HX.out, HY.out]; exact He.out); exact HE.out i (by omega))⟩
          case measure => simp [intOf]; omega
        · have He := Lib.hid he; clear he
          go_wp2
          refine wp_region_over (by kernel_rfl) (by kernel_rfl) ?_
          repeat (go_big_quiet_step ((go_at_call 98; exact calls_over (eqMove_is false x y _ (decide_eq_false He.out)))))
          refine wpQuiet_nil ?_
          intro w1 hw1
          go_wp2
          go_ret
          have : la ≠ lb := fun e => He.out (by rw [← HX.out, ← HY.out, e])
          exact ⟨by simp [this], hB.trans (hw1.mono hB.size)⟩
      · obtain rfl : k = n := by omega
        go_wp2
        go_ret
        have : la = lb := ext_getD default (by rw [← Hn.out, Hl.out]) (fun i hi => HE.out i (by rw [Hn.out]; exact hi))
        exact ⟨by simp [this], hB⟩
  · have hb := bne_len hlen
    have : la ≠ lb := fun e => hlen (by rw [e])
    have Ht := Lib.hid this; clear this
    go_enter Tryd.func81, Tryd.ntmps81
    go_wp2
    go_ret
    exact ⟨by simp [Ht.out], Below.refl _ _⟩

theorem eqMoveS_is (r : Bool) (va vb : Value) (la lb : List Move) (B B' : Nat) (w : World) (hr : decide (la = lb) = r) (ha : movesE.rd w B [va] la) (hb : movesE.rd w B' [vb] lb) :
    Calls Tryd.prog 81 #[va, vb] w (Gives (.bool r) w) := hr ▸ eqMoveS_any va vb la lb B B' w ha hb

set_option maxHeartbeats 400000 in
theorem szMoveS_any (v : Value) (l : List Move) (B : Nat) (w : World) (left : Int) (h : movesE.rd w B [v] l) (h0 : 0 ≤ left) (h1 : left ≤ 1048576) :
    Calls Tryd.prog 68 #[v, .int .i64 left] w (Gives (.int .i64 (lim l.length left)) w) := by
  have a1 := len_le h
  obtain ⟨a, n, cap, rfl⟩ := rd_slice h
  obtain ⟨n', cap', hv, -⟩ := h
  obtain rfl : n = l.length := by simp at hv; exact hv.2.1
  clear hv
  by_cases hlt : left < l.length
  · have hr := Lib.hid (lim_of_lt hlt)
    have ht : left - (l.length : Int) < 0 := by omega
    go_enter Tryd.func68, Tryd.ntmps68
    go_wp2
    go_ret
    exact ⟨by rw [hr.out]; rfl, Below.refl _ _⟩
  · have hr := Lib.hid (lim_of_ge hlt)
    have ht : ¬ left - (l.length : Int) < 0 := by omega
    go_enter Tryd.func68, Tryd.ntmps68
    go_wp2
    go_ret
    exact ⟨by rw [hr.out]; rfl, Below.refl _ _⟩

end Go.Proofs.YtnkhgfdlehhjmaaDoor
