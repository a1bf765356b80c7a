/-
  The closures of the program's search: the step of a pair, and whether it tells.
-/
import Derived.Test.YtmbecaiieibcjaaUnlOk
import Derived.Test.YtmbecaiieibcjaaOver
import Derived.Test.YtmbecaiieibcjaaCalm
namespace Go.Proofs.Ytmbecaiieibcjaa
open Go.RowKit

/-- What the closures read: the reader's box, its states, its rows. -/
structure RdU (r : Reader) (w : World) (g : Nat) : Prop where
  ok : ROk r
  blk : ∃ ab ao ac nb no nc, Blk w g [.int .i64 r.letters, .int .i64 r.start, .slice (some ⟨ab, ao, none⟩) r.accept.length ac, .slice (some ⟨nb, no, none⟩) r.accept.length nc] 44 ∧ r.accept.length ≤ ac ∧ ac ≤ 9223372036854775807 ∧ r.accept.length ≤ nc ∧ nc ≤ 9223372036854775807 ∧
    (∀ a, a < r.accept.length → w.cell? ⟨ab, ao + a, none⟩ = some (.bool (accU r a))) ∧
    ∀ a, a < r.accept.length → ∃ rb ro rc, w.cell? ⟨nb, no + a, none⟩ = some (.slice (some ⟨rb, ro, none⟩) r.letters.toNat rc) ∧ r.letters.toNat ≤ rc ∧ rc ≤ 9223372036854775807 ∧ ∀ l, l < r.letters.toNat → w.cell? ⟨rb, ro + l, none⟩ = some (.int .i64 (nxtU r a l : Nat))

theorem RdU.of {r : Reader} {w w' : World} {g : Nat} (h : RdU r w g) (hb : Below w.heap.size w w') : RdU r w' g := by
  obtain ⟨K, ab, ao, ac, nb, no, nc, h1, a1, a2, a3, a4, h2, h3⟩ := h
  have lt : ∀ {p : Addr} {v : Value}, w.cell? p = some v → w'.cell? p = some v := fun hc => (hb.cell (World.block_lt_of_cell? w _ hc)).trans hc
  refine ⟨K, ab, ao, ac, nb, no, nc, h1.of hb h1.lt, a1, a2, a3, a4, fun a ha => lt (h2 a ha), fun a ha => ?_⟩
  obtain ⟨rb, ro, rc, k1, k2, k3, k4⟩ := h3 a ha
  exact ⟨rb, ro, rc, lt k1, k2, k3, fun l hl => lt (k4 l hl)⟩

theorem rdU_of {r : Reader} {w : World} {g B : Nat} {v3 v4 : Value} (hA : Blk w g [.int .i64 r.letters, .int .i64 r.start, v3, v4] 44) (h3 : boolsE.rd w B [v3] r.accept) (h4 : intssE.rd w B [v4] r.next) (hv : validRead r = true) : RdU r w g := by
  have K := rok_of hv
  obtain ⟨ab, ao, ac, rfl, a1, a2, a4⟩ := rd_s1p rfl h3 K.n1
  obtain ⟨nb, no, nc, rfl, n1, n2, n4⟩ := rd_s1p rfl h4 (by rw [K.nn]; exact K.n1)
  rw [K.nn] at n1 n4 hA
  refine ⟨K, ab, ao, ac, nb, no, nc, hA, a1, a2, n1, n2, fun a ha => ?_, fun a ha => ?_⟩
  · obtain ⟨vk, k1, k2⟩ := a4 a ha
    obtain rfl : vk = .bool (accU r a) := by have h : [vk] = [.bool (accU r a)] := k2; simpa using h
    exact k1
  · obtain ⟨vk, k1, k2⟩ := n4 a ha
    have hrl := K.rowlen ha
    have hl1 : 0 < (r.next[a]?.getD default).length := by rw [hrl]; have := K.l1; omega
    obtain ⟨rb, ro, rc, rfl, u1, u2, u4⟩ := rd_s1p rfl k2 hl1
    rw [hrl] at u1 u4 k1
    refine ⟨rb, ro, rc, k1, u1, u2, fun l hl => ?_⟩
    obtain ⟨vk, c1, c2⟩ := u4 l hl
    obtain ⟨hvk, -⟩ := c2
    have hn := (K.next ha hl).1
    obtain rfl : vk = .int .i64 ((nxtU r a l : Nat) : Int) := by rw [← hn]; simpa using hvk
    exact c1

set_option maxHeartbeats 1000000 in
theorem isC_any (r : Reader) (a b g : Nat) (w : World) (h : RdU r w g) (ha : a < r.accept.length) (hb : b < r.accept.length) :
    Calls Try.prog 57 #[.agg #[.int .i64 (a : Nat), .int .i64 (b : Nat)], .pointer (some ⟨g, 0, none⟩)] w (Gives (.bool (accU r a != accU r b)) w) := by
  obtain ⟨K, ab, ao, ac, nb, no, nc, h1, a1, a2, -, -, h2, -⟩ := h
  have z0 := h2 a ha
  have z1 := h2 b hb
  have hgl := h1.lt
  obtain ⟨n, hn⟩ : ∃ n, n = r.accept.length := ⟨_, rfl⟩
  rw [← hn] at h1 a1 ha hb
  obtain ⟨b1, hb1⟩ : ∃ b, b = accU r a := ⟨_, rfl⟩
  obtain ⟨b2, hb2⟩ : ∃ y, y = accU r b := ⟨_, rfl⟩
  rw [← hb1] at z0 ⊢
  rw [← hb2] at z1 ⊢
  have hn300 : n ≤ 300 := by rw [hn]; exact K.n300
  have S := (Star.nil w).alloc (cs := #[.int .i64 (a : Nat), .int .i64 (b : Nat)]) (ty := 95)
  clear K h2 hn hb1 hb2
  go_enter Try.func57, Try.ntmps57
  go_wp2_with fail
  generalize hW : w.alloc _ = w0 at S ⊢
  obtain ⟨g2, hg2⟩ : ∃ x, x = w.heap.size := ⟨_, rfl⟩
  rw [← hg2] at S ⊢
  clear hW hg2
  have BW := S.below
  have y0 := (BW.cell (World.block_lt_of_cell? w _ z0)).trans z0
  have y1 := (BW.cell (World.block_lt_of_cell? w _ z1)).trans z1
  have PR := h1.of BW hgl
  have d2 := PR.cell 2 rfl
  have e0 := (S.blk 0 rfl).cell 0 rfl
  have e1 := (S.blk 0 rfl).cell 1 rfl
  have gl1 := PR.lt
  have gl2 := (S.blk 0 rfl).lt
  have gl3 : ab < w0.heap.size := World.block_lt_of_cell? w0 _ y0
  have hov := cell_over w0
  have j1 : (0 : Int) ≤ (a : Int) := by omega
  have j2 : (a : Int) < (n : Int) := by omega
  have j3 : (0 : Int) ≤ (b : Int) := by omega
  have j4 : (b : Int) < (n : Int) := by omega
  refine wp_region_over (by kernel_rfl) (by kernel_rfl) ?_
  repeat (go_big_quiet_step (fail))
  refine wpQuiet_nil ?_
  intro w2 wb2
  go_wp2
  go_ret
  exact ⟨rfl, BW.trans (wb2.mono BW.size)⟩

set_option maxHeartbeats 2000000 in
theorem stepC_any (r : Reader) (a b l g : Nat) (w : World) (h : RdU r w g) (ha : a < r.accept.length) (hb : b < r.accept.length) (hl : l < r.letters.toNat) :
    Calls Try.prog 56 #[.agg #[.int .i64 (a : Nat), .int .i64 (b : Nat)], .int .i64 (l : Nat), .pointer (some ⟨g, 0, none⟩)] w (Gives (.agg #[.int .i64 (nxtU r a l : Nat), .int .i64 (nxtU r b l : Nat)]) w) := by
  obtain ⟨K, ab, ao, ac, nb, no, nc, h1, -, -, a3, a4, -, h3⟩ := h
  obtain ⟨rb, ro, rc, k1, k2, k3, k4⟩ := h3 a ha
  obtain ⟨sb, so, sc, l1, l2, l3, l4⟩ := h3 b hb
  have z0 := k4 l hl
  have z1 := l4 l hl
  have hgl := h1.lt
  obtain ⟨n, hn⟩ : ∃ n, n = r.accept.length := ⟨_, rfl⟩
  obtain ⟨c, hc⟩ : ∃ c, c = r.letters.toNat := ⟨_, rfl⟩
  rw [← hn] at h1 a3 ha hb
  rw [← hc] at k1 k2 l1 l2 hl
  obtain ⟨p, hp⟩ : ∃ y, y = nxtU r a l := ⟨_, rfl⟩
  obtain ⟨q, hq⟩ : ∃ y, y = nxtU r b l := ⟨_, rfl⟩
  rw [← hp] at z0 ⊢
  rw [← hq] at z1 ⊢
  have hn300 : n ≤ 300 := by rw [hn]; exact K.n300
  have hc3 : c ≤ 3 := by have := K.l3; omega
  have S := ((Star.nil w).alloc (cs := #[.int .i64 (a : Nat), .int .i64 (b : Nat)]) (ty := 95)).alloc (cs := #[.int .i64 0, .int .i64 0]) (ty := 95)
  rw [World.size_alloc] at S
  clear K h3 k4 l4 hn hc hp hq
  go_enter Try.func56, Try.ntmps56
  go_wp2_with fail
  generalize hW : (w.alloc _).alloc _ = w0 at S ⊢
  clear hW
  refine wp_region_m 20 (by kernel_rfl) rfl ?_
  intro w4 b4
  replace S := S.step b4
  clear b4
  have BW := S.below
  have y0 := (BW.cell (World.block_lt_of_cell? w _ z0)).trans z0
  have y1 := (BW.cell (World.block_lt_of_cell? w _ z1)).trans z1
  have y2 := (BW.cell (World.block_lt_of_cell? w _ k1)).trans k1
  have y3 := (BW.cell (World.block_lt_of_cell? w _ l1)).trans l1
  have PR := h1.of BW hgl
  have d3 := PR.cell 3 rfl
  have e0 := (S.blk 1 rfl).cell 0 rfl
  have e1 := (S.blk 1 rfl).cell 1 rfl
  have gl1 := PR.lt
  have gl2 := (S.blk 1 rfl).lt
  have gl3 : nb < w4.heap.size := World.block_lt_of_cell? w4 _ y2
  have gl4 : rb < w4.heap.size := World.block_lt_of_cell? w4 _ y0
  have gl5 : sb < w4.heap.size := World.block_lt_of_cell? w4 _ y1
  have hov := cell_over w4
  have j1 : (0 : Int) ≤ (a : Int) := by omega
  have j2 : (a : Int) < (n : Int) := by omega
  have j3 : (0 : Int) ≤ (b : Int) := by omega
  have j4 : (b : Int) < (n : Int) := by omega
  have j5 : (0 : Int) ≤ (l : Int) := by omega
  have j6 : (l : Int) < (c : Int) := by omega
  refine wpM_read 0 rfl rfl (by kernel_rfl) (fun _ d _ _ _ h => by cases d <;> exact h) ?_
  go_big_quiet_step (fail)
  refine wpQuiet_nil ?_
  refine wpM_read 1 rfl rfl (by kernel_rfl) (fun _ d _ _ _ h => by cases d <;> exact h) ?_
  go_big_quiet_step (fail)
  refine wpQuiet_nil ?_
  refine wpM_read 2 rfl rfl (by kernel_rfl) (fun _ d _ _ _ h => by cases d <;> exact h) ?_
  go_big_quiet_step (fail)
  refine wpQuiet_nil ?_
  refine wpM_read 3 rfl rfl (by kernel_rfl) (fun _ d _ _ _ h => by cases d <;> exact h) ?_
  go_big_quiet_step (fail)
  refine wpQuiet_nil ?_
  refine wpM_read 4 rfl rfl (by kernel_rfl) (fun _ d _ _ _ h => by cases d <;> exact h) ?_
  go_big_quiet_step (fail)
  refine wpQuiet_nil ?_
  refine wpM_read 5 rfl rfl (by kernel_rfl) (fun _ d _ _ _ h => by cases d <;> exact h) ?_
  go_big_quiet_step (fail)
  refine wpQuiet_nil ?_
  refine wpM_read 6 rfl rfl (by kernel_rfl) (fun _ d _ _ _ h => by cases d <;> exact h) ?_
  go_big_quiet_step (fail)
  refine wpQuiet_nil ?_
  refine wpM_read 7 rfl rfl (by kernel_rfl) (fun _ d _ _ _ h => by cases d <;> exact h) ?_
  go_big_quiet_step (fail)
  refine wpQuiet_nil ?_
  refine wpM_read 8 rfl rfl (by kernel_rfl) (fun _ d _ _ _ h => by cases d <;> exact h) ?_
  go_big_quiet_step (fail)
  refine wpQuiet_nil ?_
  refine wpM_read 9 rfl rfl (by kernel_rfl) (fun _ d _ _ _ h => by cases d <;> exact h) ?_
  go_big_quiet_step (fail)
  refine wpQuiet_nil ?_
  refine wpM_read 10 rfl rfl (by kernel_rfl) (fun _ d _ _ _ h => by cases d <;> exact h) ?_
  go_big_quiet_step (fail)
  refine wpQuiet_nil ?_
  refine wpM_read 11 rfl rfl (by kernel_rfl) (fun _ d _ _ _ h => by cases d <;> exact h) ?_
  go_big_quiet_step (fail)
  refine wpQuiet_nil ?_
  refine wpM_read 12 rfl rfl (by kernel_rfl) (fun _ d _ _ _ h => by cases d <;> exact h) ?_
  go_big_quiet_step (fail)
  refine wpQuiet_nil ?_
  refine wpM_read 13 rfl rfl (by kernel_rfl) (fun _ d _ _ _ h => by cases d <;> exact h) ?_
  go_big_quiet_step (fail)
  refine wpQuiet_nil ?_
  refine wpM_read 14 rfl rfl (by kernel_rfl) (fun _ d _ _ _ h => by cases d <;> exact h) ?_
  go_big_quiet_step (fail)
  refine wpQuiet_nil ?_
  refine wpM_read 15 rfl rfl (by kernel_rfl) (fun _ d _ _ _ h => by cases d <;> exact h) ?_
  go_big_quiet_step (fail)
  refine wpQuiet_nil ?_
  refine wpM_read 16 rfl rfl (by kernel_rfl) (fun _ d _ _ _ h => by cases d <;> exact h) ?_
  go_big_quiet_step (fail)
  refine wpQuiet_nil ?_
  refine wpM_read 17 rfl rfl (by kernel_rfl) (fun _ d _ _ _ h => by cases d <;> exact h) ?_
  go_big_quiet_step (fail)
  refine wpQuiet_nil ?_
  refine wpM_read 18 rfl rfl (by kernel_rfl) (fun _ d _ _ _ h => by cases d <;> exact h) ?_
  go_big_quiet_step (fail)
  refine wpQuiet_nil ?_
  clear y0 y1 y2 y3 PR d3 e0 e1 gl1 gl2 gl3 gl4 gl5 hov BW
  refine wpM_ready [19] (by kernel_rfl) (by decide) (AllM.cons rfl (fun w5 b5 K hK => ?_) AllM.nil)
  replace S := S.step b5
  have a0 := (S.blk 0 rfl).cell 0 rfl
  have a1 := (S.blk 0 rfl).cell 1 rfl
  have af := (S.blk 0 rfl).free
  clear b5
  go_simp
  refine hK _ _ (.inl (closes_of (by kernel_rfl))) ?_
  clear hK K
  refine wpM_done (by kernel_rfl) (fun w6 b6 => ?_)
  generalize hW3 : (w5.setCell _ _).setCell _ _ = w7 at b6
  have S7 : Star w w7 [oB (w.heap.size + 1) [.int .i64 (p : Nat), .int .i64 (q : Nat)] 95, oB w.heap.size [.int .i64 (a : Nat), .int .i64 (b : Nat)] 95] := by rw [← hW3]; exact (S.set 0 _).set 1 _
  replace S := S7.step b6
  clear b6 hW3 a0 a1 af S7
  go_wp2
  have q0 := (S.blk 0 rfl).cell 0 rfl
  have q1 := (S.blk 0 rfl).cell 1 rfl
  exact bodyPost_ret (v := .agg #[.int .i64 (p : Nat), .int .i64 (q : Nat)]) (by simp [results, Try.results56, go_sem, q0, q1]) rfl (show Gives _ w _ _ from ⟨rfl, S.below⟩)

end Go.Proofs.Ytmbecaiieibcjaa
