/-
  The program's turner: a move, the verdict of a stop.
-/
import Derived.Test.YtjochoghmpcgdaaDoorRunIK
import Derived.Test.YtjochoghmpcgdaaDoorSpecTurnK
namespace Go.Proofs.YtjochoghmpcgdaaDoor
open Go.RowKit

/-- What a run reads: the turner's cells. -/
structure RdT (t : Turner) (w : World) (ta : Nat) (tp tc : Nat) : Prop where
  ok : TurnOk t
  cap : t.moves.length ≤ tc ∧ tc ≤ 9223372036854775807
  rows : ∀ p, p < t.moves.length → ∃ rb ro rc, w.cell? ⟨ta, tp + p, none⟩ = some (.slice (some ⟨rb, ro, none⟩) (t.letters.toNat + 2) rc) ∧ t.letters.toNat + 2 ≤ rc ∧ rc ≤ 9223372036854775807 ∧
    ∀ k, k < t.letters.toNat + 2 → w.cell? ⟨rb, ro + k * 2, none⟩ = some (.int .i64 ((t.moves[p]?.getD default)[k]?.getD default).to) ∧ w.cell? ⟨rb, ro + k * 2 + 1, none⟩ = some (.int .i64 ((t.moves[p]?.getD default)[k]?.getD default).dir)

theorem RdT.of {t : Turner} {w w' : World} {ta tp tc : Nat} (h : RdT t w ta tp tc) (hb : Below w.heap.size w w') : RdT t w' ta tp tc := by
  have lt : ∀ {p : Addr} {v : Value}, w.cell? p = some v → w'.cell? p = some v := fun hc => (hb.cell (World.block_lt_of_cell? w _ hc)).trans hc
  refine ⟨h.ok, h.cap, fun p hp => ?_⟩
  obtain ⟨rb, ro, rc, k1, k2, k3, k4⟩ := h.rows p hp
  exact ⟨rb, ro, rc, lt k1, k2, k3, fun k hk => ⟨lt (k4 k hk).1, lt (k4 k hk).2⟩⟩

theorem rdT_of {t : Turner} {w : World} {B : Nat} {v2 : Value} (h : movessE.rd w B [v2] t.moves) (hv : validTurn t = true) : ∃ ta tp tc, v2 = .slice (some ⟨ta, tp, none⟩) t.moves.length tc ∧ RdT t w ta tp tc := by
  have K := turnOk_of hv
  obtain ⟨ta, tp, tc, rfl, h1, h2, h4⟩ := rd_s1p rfl h (by have := K.n1; omega)
  refine ⟨ta, tp, tc, rfl, K, ⟨h1, h2⟩, fun p hp => ?_⟩
  obtain ⟨vk, c1, r1⟩ := h4 p hp
  have hlen := (K.row _ (mem_getD (l := t.moves) (k := p) hp)).1
  have hl : (t.moves[p]?.getD default).length = t.letters.toNat + 2 := by have := K.l1; omega
  obtain ⟨ma, mc, rfl, m1, m2, -, m4⟩ := rd_movesE r1
  rw [hl] at m1 m4 c1
  obtain ⟨rb, ro, rfl, -, -, -⟩ := m4 0 (by omega)
  refine ⟨rb, ro, mc, c1, m1, m2, fun k hk => ?_⟩
  obtain ⟨sb, so, e, -, ⟨k1, k2⟩, -⟩ := m4 k hk
  simp only [Option.some.injEq, Addr.mk.injEq, and_true] at e
  obtain ⟨rfl, rfl⟩ := e
  exact ⟨k1, k2⟩

set_option maxHeartbeats 2000000 in
theorem move_any (t : Turner) (X : ByteArray) (p : Pl) (ta tp tc : Nat) (w : World) (h : RdT t w ta tp tc) (hx : wordOk t.letters.toNat X.data.toList) (hX : X.size ≤ 1000) (hp : p.1 < t.moves.length) (hp2 : p.2 < 100000) :
    Calls Tryd.prog 77 #[.agg #[.int .i64 t.letters, .int .i64 t.start, .slice (some ⟨ta, tp, none⟩) t.moves.length tc], .string X, .agg #[.int .i64 (p.1 : Nat), .int .i64 (p.2 : Nat)]] w (Gives (.agg #[.int .i64 (moveAt t X.data.toList p).to, .int .i64 (moveAt t X.data.toList p).dir]) w) := by
  have K := h.ok
  obtain ⟨rb, ro, rc, k1, k2, k3, k4⟩ := h.rows p.1 hp
  have hcap := h.cap.1
  have hbl := belowN_lt hx p.2
  have hmv : moveAt t X.data.toList p = (t.moves[p.1]?.getD default)[belowN t.letters.toNat X.data.toList p.2]?.getD default := rfl
  obtain ⟨c, hc⟩ : ∃ c : Nat, t.letters = c := ⟨t.letters.toNat, by have := K.l1; omega⟩
  have hc3 : c ≤ 3 := by have := K.l3; omega
  have hcn : t.letters.toNat = c := by omega
  rw [hcn] at k1 k2 k4 hbl hmv hx
  obtain ⟨y, hy⟩ : ∃ y, y = belowN c X.data.toList p.2 := ⟨_, rfl⟩
  obtain ⟨z0, z1⟩ := k4 _ hbl
  rw [← hmv, ← hy] at z0 z1
  obtain ⟨mv, hmv2⟩ : ∃ m, m = moveAt t X.data.toList p := ⟨_, rfl⟩
  rw [← hmv2] at z0 z1 ⊢
  have hbw := fun w' => Lib.hid (show Calls Tryd.prog 51 #[.int .i64 (c : Nat), .string X, .int .i64 (p.2 : Nat)] w' (Gives (.int .i64 (y : Nat)) w') from (below_k c hc3 X hx hX p.2 w').mono (by rintro e w2 ⟨rfl, rfl⟩; exact ⟨by rw [hy], Below.refl _ _⟩))
  have hyl : y < c + 2 := by rw [hy]; exact hbl
  rw [hc]
  obtain ⟨n, hn⟩ : ∃ n, n = t.moves.length := ⟨_, rfl⟩
  rw [← hn] at hp hcap ⊢
  have hn12 : n ≤ 12 := by rw [hn]; exact K.n12
  obtain ⟨p1, p2⟩ := p
  have S := (((Star.nil w).alloc (cs := #[.int .i64 (c : Nat), .int .i64 t.start, .slice (some ⟨ta, tp, none⟩) n tc]) (ty := 27)).alloc (cs := #[.int .i64 (p1 : Nat), .int .i64 (p2 : Nat)]) (ty := 96)).alloc (cs := #[.int .i64 0, .int .i64 0]) (ty := 80)
  rw [World.size_alloc, World.size_alloc] at S
  clear K h k4 hbl hmv hc hcn hx hy hmv2 hn
  go_enter Tryd.func77, Tryd.ntmps77
  go_wp2_with fail
  generalize hW : ((w.alloc _).alloc _).alloc _ = w0 at S ⊢
  clear hW
  refine wp_region_m 15 (by kernel_rfl) rfl ?_
  intro w4 b4
  replace S := S.step b4
  clear b4
  have BW := S.below
  have y0 := (BW.cell (World.block_lt_of_cell? w _ z0)).trans z0
  have y1 := (BW.cell (World.block_lt_of_cell? w _ z1)).trans z1
  have y2 := (BW.cell (World.block_lt_of_cell? w _ k1)).trans k1
  have d0 := (S.blk 2 rfl).cell 0 rfl
  have d2 := (S.blk 2 rfl).cell 2 rfl
  have e0 := (S.blk 1 rfl).cell 0 rfl
  have e1 := (S.blk 1 rfl).cell 1 rfl
  have gl1 := (S.blk 2 rfl).lt
  have gl2 := (S.blk 1 rfl).lt
  have gl3 : ta < w4.heap.size := World.block_lt_of_cell? w4 _ y2
  have gl4 : rb < w4.heap.size := World.block_lt_of_cell? w4 _ y0
  have hov := cell_over w4
  have j1 : (0 : Int) ≤ (p1 : Int) := by omega
  have j2 : (p1 : Int) < (n : Int) := by omega
  have j3 : (0 : Int) ≤ (y : Int) := by omega
  have j4 : (y : Int) < ((c + 2 : Nat) : Int) := by omega
  refine wpM_read 0 rfl rfl (by kernel_rfl) (fun _ d _ _ _ h => by cases d <;> exact h) ?_
  go_big_quiet_step (fail)
  refine wpQuiet_nil ?_
  refine wpM_read 1 rfl rfl (by kernel_rfl) (fun _ d _ _ _ h => by cases d <;> exact h) ?_
  go_big_quiet_step (fail)
  refine wpQuiet_nil ?_
  refine wpM_read 2 rfl rfl (by kernel_rfl) (fun _ d _ _ _ h => by cases d <;> exact h) ?_
  go_big_quiet_step (fail)
  refine wpQuiet_nil ?_
  refine wpM_read 3 rfl rfl (by kernel_rfl) (fun _ d _ _ _ h => by cases d <;> exact h) ?_
  go_big_quiet_step (fail)
  refine wpQuiet_nil ?_
  refine wpM_read 4 rfl rfl (by kernel_rfl) (fun _ d _ _ _ h => by cases d <;> exact h) ?_
  go_big_quiet_step (fail)
  refine wpQuiet_nil ?_
  refine wpM_read 5 rfl rfl (by kernel_rfl) (fun _ d _ _ _ h => by cases d <;> exact h) ?_
  go_big_quiet_step (fail)
  refine wpQuiet_nil ?_
  refine wpM_read 6 rfl rfl (by kernel_rfl) (fun _ d _ _ _ h => by cases d <;> exact h) ?_
  go_big_quiet_step (fail)
  refine wpQuiet_nil ?_
  refine wpM_read 7 rfl rfl (by kernel_rfl) (fun _ d _ _ _ h => by cases d <;> exact h) ?_
  go_big_quiet_step (fail)
  refine wpQuiet_nil ?_
  refine wpM_read 8 rfl rfl (by kernel_rfl) (fun _ d _ _ _ h => by cases d <;> exact h) ?_
  go_big_quiet_step (fail)
  refine wpQuiet_nil ?_
  refine wpM_read 9 rfl rfl (by kernel_rfl) (fun _ d _ _ _ h => by cases d <;> exact h) ?_
  go_big_quiet_step (fail)
  refine wpQuiet_nil ?_
  refine wpM_read 10 rfl rfl (by kernel_rfl) (fun _ d _ _ _ h => by cases d <;> exact h) ?_
  go_big_quiet_step (fail)
  refine wpQuiet_nil ?_
  refine wpM_call 11 51 #[.int .i64 (c : Nat), .string X, .int .i64 (p2 : Nat)] (.int .i64 (y : Nat)) rfl (by kernel_rfl) (fun _ d _ _ _ h => by cases d <;> exact h) rfl (fun x => by go_simp) (fun x _ => (hbw x).out) (fun K hK => ?_)
  go_simp
  refine hK _ ?_
  clear hK K
  refine wpM_read 12 rfl rfl (by kernel_rfl) (fun _ d _ _ _ h => by cases d <;> exact h) ?_
  go_big_quiet_step (fail)
  refine wpQuiet_nil ?_
  refine wpM_read 13 rfl rfl (by kernel_rfl) (fun _ d _ _ _ h => by cases d <;> exact h) ?_
  go_big_quiet_step (fail)
  refine wpQuiet_nil ?_
  clear y0 y1 y2 d0 d2 e0 e1 gl1 gl2 gl3 gl4 hov BW hbw
  refine wpM_ready [14] (by kernel_rfl) (by decide) (AllM.cons rfl (fun w5 b5 K hK => ?_) AllM.nil)
  replace S := S.step b5
  have a0 := (S.blk 0 rfl).cell 0 rfl
  have a1 := (S.blk 0 rfl).cell 1 rfl
  have af := (S.blk 0 rfl).free
  clear b5
  go_simp
  refine hK _ _ (.inl (closes_of (by kernel_rfl))) ?_
  clear hK K
  refine wpM_done (by kernel_rfl) (fun w6 b6 => ?_)
  generalize hW3 : (w5.setCell _ _).setCell _ _ = w7 at b6
  have S7 : Star w w7 [oB (w.heap.size + 1 + 1) [.int .i64 mv.to, .int .i64 mv.dir] 80] := by rw [← hW3]; exact (((S.set 0 _).set 1 _).sel [0])
  replace S := S7.step b6
  clear b6 hW3 a0 a1 af S7
  go_wp2
  have q0 := (S.blk 0 rfl).cell 0 rfl
  have q1 := (S.blk 0 rfl).cell 1 rfl
  exact bodyPost_ret (v := .agg #[.int .i64 mv.to, .int .i64 mv.dir]) (by simp [results, Tryd.results77, go_sem, q0, q1]) rfl (show Gives _ w _ _ from ⟨rfl, S.below⟩)

theorem verdictOfStop_any (m : Move) (w : World) : Calls Tryd.prog 79 #[.agg #[.int .i64 m.to, .int .i64 m.dir]] w (Gives (.int .i64 (if m.to = -1 then 1 else 2)) w) := by
  by_cases h : m.to = -1
  · have tA : (m.to == -1) = true := by simpa using h
    rw [if_pos h]
    clear h
    go_enter Tryd.func79, Tryd.ntmps79
    go_wp2
    go_ret
    exact ⟨rfl, (Below.refl _ _).alloc (Nat.le_refl _) _⟩
  · have tA : (m.to == -1) = false := by simpa using h
    rw [if_neg h]
    clear h
    go_enter Tryd.func79, Tryd.ntmps79
    go_wp2
    go_ret
    exact ⟨rfl, (Below.refl _ _).alloc (Nat.le_refl _) _⟩

end Go.Proofs.YtjochoghmpcgdaaDoor
