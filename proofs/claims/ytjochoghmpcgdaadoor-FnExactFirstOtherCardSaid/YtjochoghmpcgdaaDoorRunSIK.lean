/-
  A move of the specification's turner at a place of a word.
-/
import Derived.Test.YtjochoghmpcgdaaDoorRunMK
namespace Go.Proofs.YtjochoghmpcgdaaDoor
open Go.RowKit Go.PlainAid

/-- A turner behind a pointer. -/
structure RdP (t : Turner) (w : World) (g : Nat) : Prop where
  get : ∃ ta tp tc, w.cell? ⟨g, 0, none⟩ = some (.int .i64 t.letters) ∧ w.cell? ⟨g, 1, none⟩ = some (.int .i64 t.start) ∧ w.cell? ⟨g, 2, none⟩ = some (.slice (some ⟨ta, tp, none⟩) t.moves.length tc) ∧ RdT t w ta tp tc

theorem RdP.of {t : Turner} {w w' : World} {g : Nat} (h : RdP t w g) (hb : Below w.heap.size w w') : RdP t w' g := by
  obtain ⟨ta, tp, tc, h1, h2, h3, h4⟩ := h.get
  have lt : ∀ {p : Addr} {v : Value}, w.cell? p = some v → w'.cell? p = some v := fun hc => (hb.cell (World.block_lt_of_cell? w _ hc)).trans hc
  exact ⟨ta, tp, tc, lt h1, lt h2, lt h3, h4.of hb⟩

set_option maxHeartbeats 2000000 in
theorem sbelow_any (t : Turner) (g : Nat) (X : ByteArray) (a : Nat) (w : World) (h : w.cell? ⟨g, 0, none⟩ = some (.int .i64 t.letters)) (hl1 : 1 ≤ t.letters) (hl3 : t.letters ≤ 3) (hx : wordOk t.letters.toNat X.data.toList) (hX : X.size ≤ 1000) (ha : a < X.size + 2) :
    Calls Tryd.prog 57 #[.pointer (some ⟨g, 0, none⟩), .string X, .int .i64 (a : Nat)] w (Keeps (.int .i64 (belowN t.letters.toNat X.data.toList a : Nat)) w) := by
  have hl : X.data.toList.length = X.size := by rw [Array.length_toList]; rfl
  obtain ⟨c, hc⟩ : ∃ c : Nat, t.letters = c := ⟨t.letters.toNat, by omega⟩
  have hcn : t.letters.toNat = c := by omega
  rw [hcn] at hx ⊢
  rw [hc] at h
  have hc3 : c ≤ 3 := by omega
  clear hc hcn hl1 hl3
  have gl := World.block_lt_of_cell? w _ h
  have wl : IntKind.i64.wrap ((X.size : Int) + 1) = (X.size : Int) + 1 := IntWalk.i64_in _ ⟨by omega, by omega⟩
  by_cases h0 : a = 0
  · have e : belowN c X.data.toList a = c := by unfold belowN; rw [if_pos h0]
    rw [e, h0]
    clear e hl hx
    go_enter Tryd.func57, Tryd.ntmps57
    go_wp2
    go_ret
    exact ⟨rfl, rfl⟩
  have tA : ((a : Int) == 0) = false := by simpa using h0
  by_cases h1 : a = X.size + 1
  · have e : belowN c X.data.toList a = c + 1 := by unfold belowN; rw [if_neg h0, if_pos (by rw [hl]; omega)]
    rw [e]
    have tB : ((a : Int) == (X.size : Int) + 1) = true := by rw [h1]; simp
    have wa : IntKind.i64.wrap ((c : Int) + 1) = (c : Int) + 1 := IntWalk.i64_in _ ⟨by omega, by omega⟩
    clear e hl hx h1
    go_enter Tryd.func57, Tryd.ntmps57
    go_wp2
    go_ret
    exact ⟨by simp, rfl⟩
  have tB : ((a : Int) == (X.size : Int) + 1) = false := by
    have : ¬ (a : Int) = (X.size : Int) + 1 := by omega
    simpa using this
  have e : belowN c X.data.toList a = (X.data.toList[a - 1]?.getD 97).toNat - 97 := by unfold belowN; rw [if_neg h0, if_neg (by rw [hl]; omega)]
  have hk : a - 1 < X.data.toList.length := by omega
  have hm := hx _ (List.getElem_mem hk)
  rw [List.getElem?_eq_getElem hk, Option.getD_some] at e
  have hbt : bt X (a - 1) = 97 + ((belowN c X.data.toList a : Nat) : Int) := by
    rw [bt_get X (a - 1) (by omega), List.getElem?_eq_getElem hk, Option.getD_some, e]
    omega
  have hlt : belowN c X.data.toList a ≤ 158 := by omega
  obtain ⟨k, rfl⟩ : ∃ k, a = k + 1 := ⟨a - 1, by omega⟩
  obtain ⟨y, hy⟩ : ∃ y, y = belowN c X.data.toList (k + 1) := ⟨_, rfl⟩
  rw [Nat.add_sub_cancel, ← hy] at hbt
  rw [← hy] at hlt ⊢
  have hb := get_bt X
  have wa : IntKind.i64.wrap (((k + 1 : Nat) : Int) - 1) = (k : Int) := by rw [show ((k + 1 : Nat) : Int) - 1 = (k : Int) from by omega]; exact IntWalk.i64_in _ ⟨by omega, by omega⟩
  have wb : IntKind.i64.wrap ((k : Int) + 1 - 1) = (k : Int) := by rw [show (k : Int) + 1 - 1 = (k : Int) from by omega]; exact IntWalk.i64_in _ ⟨by omega, by omega⟩
  have wc : IntKind.i64.wrap (bt X k) = 97 + (y : Int) := by rw [hbt]; exact IntWalk.i64_in _ ⟨by omega, by omega⟩
  have wd : IntKind.i64.wrap (97 + (y : Int) - 97) = (y : Int) := by rw [show 97 + (y : Int) - 97 = (y : Int) from by omega]; exact IntWalk.i64_in _ ⟨by omega, by omega⟩
  have we : IntKind.i64.wrap (y : Int) = (y : Int) := IntWalk.i64_in _ ⟨by omega, by omega⟩
  have i1 : (0 : Int) ≤ (k : Int) := by omega
  have i2 : (k : Int) < (X.size : Int) := by omega
  have hkn : k < X.size := by omega
  have wf : IntKind.i64.wrap ((k : Int) + 1) = (k : Int) + 1 := IntWalk.i64_in _ ⟨by omega, by omega⟩
  clear e hl hx hk hm hy hlt h0 h1 hbt
  go_enter Tryd.func57, Tryd.ntmps57
  go_wp2
  go_ret
  exact ⟨rfl, rfl⟩

set_option maxHeartbeats 2000000 in
theorem smove_any (t : Turner) (g : Nat) (X : ByteArray) (p : Pl) (w : World) (h : RdP t w g) (hx : wordOk t.letters.toNat X.data.toList) (hX : X.size ≤ 1000) (hp : p.1 < t.moves.length) (hp2 : p.2 < X.data.toList.length + 2) :
    Calls Tryd.prog 82 #[.pointer (some ⟨g, 0, none⟩), .string X, .agg #[.int .i64 (p.1 : Nat), .int .i64 (p.2 : Nat)]] w (Gives (.agg #[.int .i64 (moveAt t X.data.toList p).to, .int .i64 (moveAt t X.data.toList p).dir]) w) := by
  have hl : X.data.toList.length = X.size := by rw [Array.length_toList]; rfl
  obtain ⟨ta, tp, tc, c0, -, c2, hr⟩ := h.get
  have K := hr.ok
  obtain ⟨rb, ro, rc, k1, k2, k3, k4⟩ := hr.rows p.1 hp
  have hcap := hr.cap.1
  have hbl := belowN_lt hx p.2
  have hmv : moveAt t X.data.toList p = (t.moves[p.1]?.getD default)[belowN t.letters.toNat X.data.toList p.2]?.getD default := rfl
  obtain ⟨c, hc⟩ : ∃ c, c = t.letters.toNat := ⟨_, rfl⟩
  have hc3 : c ≤ 3 := by have := K.l3; omega
  obtain ⟨y, hy⟩ : ∃ y, y = belowN t.letters.toNat X.data.toList p.2 := ⟨_, rfl⟩
  rw [← hc] at k1 k2 k4 hbl
  obtain ⟨z0, z1⟩ := k4 _ (by rw [hc] at hbl ⊢; exact hbl)
  rw [← hmv, ← hy] at z0 z1
  obtain ⟨mv, hmv2⟩ : ∃ m, m = moveAt t X.data.toList p := ⟨_, rfl⟩
  rw [← hmv2] at z0 z1 ⊢
  have hyl : y < c + 2 := by rw [hy, hc]; rw [hc] at hbl; exact hbl
  have HB := Lib.hid (show ∀ w', Below w.heap.size w w' → Calls Tryd.prog 57 #[.pointer (some ⟨g, 0, none⟩), .string X, .int .i64 (p.2 : Nat)] w' (Gives (.int .i64 (y : Nat)) w') from fun w' hb => (sbelow_any t g X p.2 w' ((hb.cell (World.block_lt_of_cell? w _ c0)).trans c0) K.l1 K.l3 hx hX (by omega)).mono (by rintro e w2 ⟨rfl, rfl⟩; exact ⟨by rw [hy], Below.refl _ _⟩))
  obtain ⟨n, hn⟩ : ∃ n, n = t.moves.length := ⟨_, rfl⟩
  rw [← hn] at hp hcap c2
  have hn12 : n ≤ 12 := by rw [hn]; exact K.n12
  obtain ⟨p1, p2⟩ := p
  have S := ((Star.nil w).alloc (cs := #[.int .i64 (p1 : Nat), .int .i64 (p2 : Nat)]) (ty := 96)).alloc (cs := #[.int .i64 0, .int .i64 0]) (ty := 80)
  rw [World.size_alloc] at S
  clear K h hr k4 hbl hmv hc hx hy hmv2 hn c0 hl
  go_enter Tryd.func82, Tryd.ntmps82
  go_wp2_with fail
  generalize hW : (w.alloc _).alloc _ = w0 at S ⊢
  clear hW
  refine wp_region_m 16 (by kernel_rfl) rfl ?_
  intro w4 b4
  replace S := S.step b4
  clear b4
  have BW := S.below
  have y0 := (BW.cell (World.block_lt_of_cell? w _ z0)).trans z0
  have y1 := (BW.cell (World.block_lt_of_cell? w _ z1)).trans z1
  have y2 := (BW.cell (World.block_lt_of_cell? w _ k1)).trans k1
  have y3 := (BW.cell (World.block_lt_of_cell? w _ c2)).trans c2
  have e0 := (S.blk 1 rfl).cell 0 rfl
  have e1 := (S.blk 1 rfl).cell 1 rfl
  have gl1 : g < w4.heap.size := World.block_lt_of_cell? w4 _ y3
  have gl2 := (S.blk 1 rfl).lt
  have gl3 : ta < w4.heap.size := World.block_lt_of_cell? w4 _ y2
  have gl4 : rb < w4.heap.size := World.block_lt_of_cell? w4 _ y0
  have hov := cell_over w4
  have j1 : (0 : Int) ≤ (p1 : Int) := by omega
  have j2 : (p1 : Int) < (n : Int) := by have h : p1 < n := hp; omega
  have j3 : (0 : Int) ≤ (y : Int) := by omega
  have j4 : (y : Int) < ((c + 2 : Nat) : Int) := by omega
  refine wpM_read 0 rfl rfl (by kernel_rfl) (fun _ d _ _ _ h => by cases d <;> exact h) ?_
  go_big_quiet_step (fail)
  refine wpQuiet_nil ?_
  refine wpM_read 1 rfl rfl (by kernel_rfl) (fun _ d _ _ _ h => by cases d <;> exact h) ?_
  go_big_quiet_step (fail)
  refine wpQuiet_nil ?_
  refine wpM_read 2 rfl rfl (by kernel_rfl) (fun _ d _ _ _ h => by cases d <;> exact h) ?_
  go_big_quiet_step (fail)
  refine wpQuiet_nil ?_
  refine wpM_read 3 rfl rfl (by kernel_rfl) (fun _ d _ _ _ h => by cases d <;> exact h) ?_
  go_big_quiet_step (fail)
  refine wpQuiet_nil ?_
  refine wpM_read 4 rfl rfl (by kernel_rfl) (fun _ d _ _ _ h => by cases d <;> exact h) ?_
  go_big_quiet_step (fail)
  refine wpQuiet_nil ?_
  refine wpM_read 5 rfl rfl (by kernel_rfl) (fun _ d _ _ _ h => by cases d <;> exact h) ?_
  go_big_quiet_step (fail)
  refine wpQuiet_nil ?_
  refine wpM_read 6 rfl rfl (by kernel_rfl) (fun _ d _ _ _ h => by cases d <;> exact h) ?_
  go_big_quiet_step (fail)
  refine wpQuiet_nil ?_
  refine wpM_read 7 rfl rfl (by kernel_rfl) (fun _ d _ _ _ h => by cases d <;> exact h) ?_
  go_big_quiet_step (fail)
  refine wpQuiet_nil ?_
  refine wpM_read 8 rfl rfl (by kernel_rfl) (fun _ d _ _ _ h => by cases d <;> exact h) ?_
  go_big_quiet_step (fail)
  refine wpQuiet_nil ?_
  refine wpM_read 9 rfl rfl (by kernel_rfl) (fun _ d _ _ _ h => by cases d <;> exact h) ?_
  go_big_quiet_step (fail)
  refine wpQuiet_nil ?_
  refine wpM_read 10 rfl rfl (by kernel_rfl) (fun _ d _ _ _ h => by cases d <;> exact h) ?_
  go_big_quiet_step (fail)
  refine wpQuiet_nil ?_
  refine wpM_read 11 rfl rfl (by kernel_rfl) (fun _ d _ _ _ h => by cases d <;> exact h) ?_
  go_big_quiet_step (fail)
  refine wpQuiet_nil ?_
  refine wpM_call 12 57 #[.pointer (some ⟨g, 0, none⟩), .string X, .int .i64 (p2 : Nat)] (.int .i64 (y : Nat)) rfl (by kernel_rfl) (fun _ d _ _ _ h => by cases d <;> exact h) rfl (fun x => by go_simp) (fun x hx => HB.out x (S.step hx).below) (fun K hK => ?_)
  go_simp
  refine hK _ ?_
  clear hK K
  refine wpM_read 13 rfl rfl (by kernel_rfl) (fun _ d _ _ _ h => by cases d <;> exact h) ?_
  go_big_quiet_step (fail)
  refine wpQuiet_nil ?_
  refine wpM_read 14 rfl rfl (by kernel_rfl) (fun _ d _ _ _ h => by cases d <;> exact h) ?_
  go_big_quiet_step (fail)
  refine wpQuiet_nil ?_
  clear y0 y1 y2 y3 e0 e1 gl1 gl2 gl3 gl4 hov BW HB
  refine wpM_ready [15] (by kernel_rfl) (by decide) (AllM.cons rfl (fun w5 b5 K hK => ?_) AllM.nil)
  replace S := S.step b5
  have a0 := (S.blk 0 rfl).cell 0 rfl
  have a1 := (S.blk 0 rfl).cell 1 rfl
  have af := (S.blk 0 rfl).free
  clear b5
  go_simp
  refine hK _ _ (.inl (closes_of (by kernel_rfl))) ?_
  clear hK K
  refine wpM_done (by kernel_rfl) (fun w6 b6 => ?_)
  generalize hW3 : (w5.setCell _ _).setCell _ _ = w7 at b6
  have S7 : Star w w7 [oB (w.heap.size + 1) [.int .i64 mv.to, .int .i64 mv.dir] 80] := by rw [← hW3]; exact (((S.set 0 _).set 1 _).sel [0])
  replace S := S7.step b6
  clear b6 hW3 a0 a1 af S7
  go_wp2
  have q0 := (S.blk 0 rfl).cell 0 rfl
  have q1 := (S.blk 0 rfl).cell 1 rfl
  exact bodyPost_ret (v := .agg #[.int .i64 mv.to, .int .i64 mv.dir]) (by simp [results, Tryd.results82, go_sem, q0, q1]) rfl (show Gives _ w _ _ from ⟨rfl, S.below⟩)

end Go.Proofs.YtjochoghmpcgdaaDoor
