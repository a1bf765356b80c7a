/-
  l07Pre of the reference (written by a program of this claim's own, gen_pre.py).
-/
import Derived.Test.YtcifdkliiljmkaaGreatDoorAfterK
import Derived.Test.YtcifdkliiljmkaaGreatDoorTurnOutK
import Derived.Test.YtcifdkliiljmkaaGreatDoorTWriterK
import Derived.Test.YtcifdkliiljmkaaGreatDoorStarJK
import Derived.Test.YtcifdkliiljmkaaGreatDoorSpecReadK
import Derived.Test.YtcifdkliiljmkaaGreatDoorSpecWritOkK
import Derived.Test.YtcifdkliiljmkaaGreatDoorCalmK
import Derived.Deep.DeepCutAuto
namespace Go.Proofs.YtcifdkliiljmkaaGreatDoor
open Go.RowKit Go.PlainAid

theorem rd_slice1p {α : Type} [Inhabited α] {E : Enc α} {ty : TypeId} {w : World} {B : Nat} {v : Value} {l : List α} (hs : E.size = 1) (h : (sliceE E ty).rd w B [v] l) (hl : 0 < l.length) :
    ∃ b o cap, v = .slice (some ⟨b, o, none⟩) l.length cap ∧ l.length ≤ cap ∧ cap ≤ 9223372036854775807 ∧
      ∀ k, k < l.length → ∃ vk, w.cell? ⟨b, o + k, none⟩ = some vk ∧ E.rd w B [vk] (l[k]?.getD default) := by
  obtain ⟨a, cap, rfl, h1, h2, -, h4⟩ := rd_slice1 hs h
  obtain ⟨b, o, v0, rfl, -, -, -⟩ := h4 0 hl
  refine ⟨b, o, cap, rfl, h1, h2, fun k hk => ?_⟩
  obtain ⟨b', o', vk, e, -, h6, h7⟩ := h4 k hk
  cases e
  exact ⟨vk, h6, h7⟩

theorem moveOk_bd' {m : Move} {n l k : Int} (h : moveOk m n l k = true) : (-2 ≤ m.to ∧ (m.to < n ∨ m.to < 0)) ∧ (-1 ≤ m.dir ∧ m.dir ≤ 1) := by
  unfold moveOk at h
  rw [Bool.or_eq_true] at h
  rcases h with h | h
  · unfold isStopB at h
    rw [Bool.and_eq_true, Bool.or_eq_true, beq_iff_eq, beq_iff_eq, beq_iff_eq] at h
    rcases h.1 with h1 | h1 <;> exact ⟨⟨by omega, .inr (by omega)⟩, by omega⟩
  · rw [Bool.and_eq_true, Bool.and_eq_true, Bool.and_eq_true] at h
    have h1 := within_true.1 h.1.1.1
    have h2 := within_true.1 h.1.1.2
    exact ⟨⟨by omega, .inl (by omega)⟩, by omega⟩

set_option maxHeartbeats 8000000 in
set_option maxRecDepth 100000 in
theorem l07Pre_is (x : Turner × Int) (u : Writer) (r : Reader) (B : Nat) (w : World) (hB0 : B ≤ w.heap.size) (gw gr : Nat) {u2 u3 v3 v4 : Value}
    (hW : Blk w gw [.int .i64 u.turner.letters, .int .i64 u.turner.start, u2, u3] 40) (hR : Blk w gr [.int .i64 r.letters, .int .i64 r.start, v3, v4] 42)
    (k2 : movessE.rd w B [u2] u.turner.moves) (k3 : strssE.rd w B [u3] u.out) (h3 : boolsE.rd w B [v3] r.accept) (h4 : intssE.rd w B [v4] r.next) (hx : preimg u r = x) :
    Calls Tryz.prog 29 #[.pointer (some ⟨gw, 0, none⟩), .pointer (some ⟨gr, 0, none⟩)] w (MakesC turnE x w) := by
  have HX := Lib.hid hx
  have K2 := Lib.hid k2; have K3 := Lib.hid k3; have H3 := Lib.hid h3; have H4 := Lib.hid h4
  have HW := Lib.hid hW; have HR := Lib.hid hR
  obtain ⟨ta, tn, tc, rfl⟩ := rd_slice k2
  obtain ⟨oa, on, oc, rfl⟩ := rd_slice k3
  obtain ⟨ba, bn, bc, rfl⟩ := rd_slice h3
  obtain ⟨na, nn, nc, rfl⟩ := rd_slice h4
  clear hx k2 k3 h3 h4 hW hR
  have S := (Star.nil w).alloc (cs := #[.int .i64 0, .int .i64 0, .slice none 0 0]) (ty := 36)
  go_enter Tryz.func29, Tryz.ntmps29
  go_wp2_with fail
  generalize hW : w.alloc _ = w0 at S ⊢
  clear hW
  replace S : Star w w0 [oB w.heap.size [.int .i64 0, .int .i64 0, .slice none 0 0] 36] := S
  refine (l07Ok_any _ _ u B gw w0 (Nat.le_trans hB0 S.below.size) (HW.out.of S.below HW.out.lt) (movessE.rd_of (S.below.mono hB0) K2.out) (strssE.rd_of (S.below.mono hB0) K3.out)).mono ?_
  rintro e w1 ⟨rfl, b⟩
  replace S := S.step b
  clear b
  cases h1 : writerOk u
  case false =>
    clear K2 K3 H3 H4
    have R0 := S.blk 0 rfl
    have c0 := R0.cell 0 rfl
    have c1 := R0.cell 1 rfl
    have c2 := R0.cell 2 rfl
    have f0 := R0.free
    go_wp2
    generalize hW : ((w1.setCell _ _).setCell _ _).setCell _ _ = w9
    replace S := S.set3 rfl hW
    have A3 := S.blk 0 rfl
    have q0 := A3.cell 0 rfl
    have q1 := A3.cell 1 rfl
    have q2 := A3.cell 2 rfl
    obtain rfl : x = (default, 1) := by rw [← HX.out]; unfold preimg; rw [h1]; rfl
    exact bodyPost_ret (v := .tuple #[.agg #[.int .i64 0, .int .i64 0, .slice none 0 0], .int .i64 1]) (by simp [results, Tryz.results29, go_sem, q0, q1, q2]) rfl (S.flat (ow_Turner_zero _)).done
  go_wp2_with fail
  refine (l01Ok_any _ _ r B gr w1 (HR.out.of S.below HR.out.lt).hd (boolsE.rd_of (S.below.mono hB0) H3.out) (intssE.rd_of (S.below.mono hB0) H4.out)).mono ?_
  rintro e w2 ⟨rfl, b⟩
  replace S := S.step b
  clear b
  cases h2 : validRead r
  case false =>
    clear K2 K3 H3 H4
    have R0 := S.blk 0 rfl
    have c0 := R0.cell 0 rfl
    have c1 := R0.cell 1 rfl
    have c2 := R0.cell 2 rfl
    have f0 := R0.free
    go_wp2
    generalize hW : ((w2.setCell _ _).setCell _ _).setCell _ _ = w9
    replace S := S.set3 rfl hW
    have A3 := S.blk 0 rfl
    have q0 := A3.cell 0 rfl
    have q1 := A3.cell 1 rfl
    have q2 := A3.cell 2 rfl
    obtain rfl : x = (default, 1) := by rw [← HX.out]; unfold preimg; rw [h1, h2]; rfl
    exact bodyPost_ret (v := .tuple #[.agg #[.int .i64 0, .int .i64 0, .slice none 0 0], .int .i64 1]) (by simp [results, Tryz.results29, go_sem, q0, q1, q2]) rfl (S.flat (ow_Turner_zero _)).done
  have PR := HR.out.of S.below HR.out.lt
  have e0 := PR.cell 0 rfl
  by_cases h3 : r.letters = 3
  case neg =>
    have t3 : (r.letters != 3) = true := by simpa using h3
    clear K2 K3 H3 H4
    have R0 := S.blk 0 rfl
    have c0 := R0.cell 0 rfl
    have c1 := R0.cell 1 rfl
    have c2 := R0.cell 2 rfl
    have f0 := R0.free
    go_wp2
    generalize hW : ((w2.setCell _ _).setCell _ _).setCell _ _ = w9
    replace S := S.set3 rfl hW
    have A3 := S.blk 0 rfl
    have q0 := A3.cell 0 rfl
    have q1 := A3.cell 1 rfl
    have q2 := A3.cell 2 rfl
    obtain rfl : x = (default, 2) := by rw [← HX.out]; unfold preimg; rw [h1, h2]; show (if r.letters = 3 then _ else _) = _; rw [if_neg h3]
    exact bodyPost_ret (v := .tuple #[.agg #[.int .i64 0, .int .i64 0, .slice none 0 0], .int .i64 2]) (by simp [results, Tryz.results29, go_sem, q0, q1, q2]) rfl (S.flat (ow_Turner_zero _)).done
  have t3 : (r.letters != 3) = false := by simpa using h3
  have KW := writOk_of h1
  have KR := readOk_of h2
  have k0 : -9223372036854775808 ≤ u.turner.letters ∧ u.turner.letters ≤ 9223372036854775807 := by have := KW.t.l1; have := KW.t.l3; omega
  obtain ⟨rb, ro, tc', ht, q1, q2, q4⟩ := rd_slice1p rfl K2.out (by have := KW.t.n1; omega)
  obtain ⟨ob, oo, oc', ho, o1, o2, o4⟩ := rd_slice1p rfl K3.out (by rw [KW.n]; have := KW.t.n1; omega)
  obtain ⟨nb, no, nc', hne, n1, n2, n4⟩ := rd_slice1p rfl H4.out (by rw [KR.nn]; have := KR.n1; omega)
  obtain ⟨ba', bc', hb', -, -, -, b4'⟩ := rd_bools H3.out
  obtain ⟨zb, zo, hz0, -, -⟩ := b4' 0 (by have := KR.n1; omega)
  have hz4 : ∀ k, k < r.accept.length → w.cell? ⟨zb, zo + k, none⟩ = some (.bool (r.accept[k]?.getD false)) := fun k hk => by
    obtain ⟨b, o, hb, -, hc⟩ := b4' k hk
    rw [hz0] at hb
    cases hb
    exact hc
  simp only [Value.slice.injEq] at ht ho hne hb'
  obtain ⟨rfl, rfl, rfl⟩ := ht
  obtain ⟨rfl, rfl, rfl⟩ := ho
  obtain ⟨rfl, rfl, rfl⟩ := hne
  obtain ⟨rfl, rfl, rfl⟩ := hb'
  obtain rfl := hz0
  clear b4'
  rw [KW.n] at o1 o4 HW
  rw [KR.nn] at n1 n4 HR
  obtain ⟨n, hn⟩ : ∃ n, n = r.accept.length := ⟨_, rfl⟩
  obtain ⟨m, hm⟩ : ∃ m, m = u.turner.moves.length := ⟨_, rfl⟩
  have hn300 : n ≤ 300 := by rw [hn]; exact KR.n300
  have hm12 : m ≤ 12 := by rw [hm]; exact KW.t.n12
  have hX : x = (preT u r, 0) := by rw [← HX.out]; unfold preimg; rw [h1, h2]; show (if r.letters = 3 then _ else _) = _; rw [if_pos h3]
  obtain ⟨St, hSt⟩ : ∃ k : Nat, u.turner.start = k := ⟨u.turner.start.toNat, by have := KW.t.s0; omega⟩
  obtain ⟨Rs, hRs⟩ : ∃ k : Nat, r.start = k := ⟨r.start.toNat, by have := KR.s0; omega⟩
  have hSt12 : St ≤ 11 := by have := KW.t.s1; omega
  have hRs300 : Rs ≤ 299 := by have := KR.s1; omega
  have hmul : St * n ≤ 3300 := Nat.le_trans (Nat.mul_le_mul hSt12 hn300) (by decide)
  obtain ⟨p, hp⟩ : ∃ p, p = St * n := ⟨_, rfl⟩
  have hpz : (St : Int) * (n : Int) = (p : Int) := by rw [hp]; push_cast; rfl
  rw [← hp] at hmul
  have wS : IntKind.i64.wrap ((St : Int) * (n : Int)) = (p : Int) := by rw [hpz]; exact IntWalk.i64_in _ ⟨by omega, by omega⟩
  have wT : IntKind.i64.wrap ((p : Int) + (Rs : Int)) = (p : Int) + (Rs : Int) := IntWalk.i64_in _ ⟨by omega, by omega⟩
  have hT : preT u r = ⟨u.turner.letters, (p : Int) + Rs, preRows u r⟩ := by unfold preT; rw [hSt, hRs, ← hn, hpz]
  have hnn : r.next.length = n := by rw [KR.nn, hn]
  rw [← hm] at HW q1 q4 o1 o4
  rw [← hn] at HR n1 n4 hz4
  rw [hSt] at HW
  rw [hRs, h3] at HR
  rw [h3] at e0 t3
  have HKW := Lib.hid KW; have HKR := Lib.hid KR; have HN := Lib.hid hn; have HM := Lib.hid hm; have HX2 := Lib.hid hX; have HT := Lib.hid hT; have HNN := Lib.hid hnn
  have HV2 := Lib.hid h2; have HL3 := Lib.hid h3; have HZ := Lib.hid hz4
  have Q4 := Lib.hid q4; have O4 := Lib.hid o4; have N4 := Lib.hid n4
  clear KW KR hX hT hp hpz hnn HX hSt hRs hm hn h1 h2 h3 hz4 q4 o4 n4 PR K2 K3 H3 H4
  have PW := HW.out.of S.below HW.out.lt
  have PR := HR.out.of S.below HR.out.lt
  have e2 := PR.cell 2 rfl
  clear PW PR
  go_wp2_with fail
  refine wp_region_m 20 (by kernel_rfl) rfl ?_
  intro w4 b4
  replace S := S.step b4
  have PW := HW.out.of S.below HW.out.lt
  have PR := HR.out.of S.below HR.out.lt
  clear b4 e0 e2 t3
  have f0 := PW.cell 0 rfl
  have f1 := PW.cell 1 rfl
  have f2 := PR.cell 1 rfl
  have gl0 := PW.lt
  have gl1 := PR.lt
  have hov := cell_over w4
  refine wpM_read 0 rfl rfl (by kernel_rfl) (fun _ d _ _ _ h => by cases d <;> exact h) ?_
  go_big_quiet_step (fail)
  refine wpQuiet_nil ?_
  refine wpM_read 1 rfl rfl (by kernel_rfl) (fun _ d _ _ _ h => by cases d <;> exact h) ?_
  go_big_quiet_step (fail)
  refine wpQuiet_nil ?_
  refine wpM_read 2 rfl rfl (by kernel_rfl) (fun _ d _ _ _ h => by cases d <;> exact h) ?_
  go_big_quiet_step (fail)
  refine wpQuiet_nil ?_
  refine wpM_read 3 rfl rfl (by kernel_rfl) (fun _ d _ _ _ h => by cases d <;> exact h) ?_
  go_big_quiet_step (fail)
  refine wpQuiet_nil ?_
  refine wpM_read 4 rfl rfl (by kernel_rfl) (fun _ d _ _ _ h => by cases d <;> exact h) ?_
  go_big_quiet_step (fail)
  refine wpQuiet_nil ?_
  refine wpM_read 5 rfl rfl (by kernel_rfl) (fun _ d _ _ _ h => by cases d <;> exact h) ?_
  go_big_quiet_step (fail)
  refine wpQuiet_nil ?_
  refine wpM_read 6 rfl rfl (by kernel_rfl) (fun _ d _ _ _ h => by cases d <;> exact h) ?_
  go_big_quiet_step (fail)
  refine wpQuiet_nil ?_
  refine wpM_read 7 rfl rfl (by kernel_rfl) (fun _ d _ _ _ h => by cases d <;> exact h) ?_
  go_big_quiet_step (fail)
  refine wpQuiet_nil ?_
  refine wpM_read 8 rfl rfl (by kernel_rfl) (fun _ d _ _ _ h => by cases d <;> exact h) ?_
  go_big_quiet_step (fail)
  refine wpQuiet_nil ?_
  refine wpM_read 9 rfl rfl (by kernel_rfl) (fun _ d _ _ _ h => by cases d <;> exact h) ?_
  go_big_quiet_step (fail)
  refine wpQuiet_nil ?_
  refine wpM_read 10 rfl rfl (by kernel_rfl) (fun _ d _ _ _ h => by cases d <;> exact h) ?_
  go_big_quiet_step (fail)
  refine wpQuiet_nil ?_
  refine wpM_read 11 rfl rfl (by kernel_rfl) (fun _ d _ _ _ h => by cases d <;> exact h) ?_
  go_big_quiet_step (fail)
  refine wpQuiet_nil ?_
  refine wpM_read 12 rfl rfl (by kernel_rfl) (fun _ d _ _ _ h => by cases d <;> exact h) ?_
  go_big_quiet_step (fail)
  refine wpQuiet_nil ?_
  refine wpM_read 13 rfl rfl (by kernel_rfl) (fun _ d _ _ _ h => by cases d <;> exact h) ?_
  go_big_quiet_step (fail)
  refine wpQuiet_nil ?_
  refine wpM_read 14 rfl rfl (by kernel_rfl) (fun _ d _ _ _ h => by cases d <;> exact h) ?_
  go_big_quiet_step (fail)
  refine wpQuiet_nil ?_
  refine wpM_read 15 rfl rfl (by kernel_rfl) (fun _ d _ _ _ h => by cases d <;> exact h) ?_
  go_big_quiet_step (fail)
  refine wpQuiet_nil ?_
  refine wpM_read 16 rfl rfl (by kernel_rfl) (fun _ d _ _ _ h => by cases d <;> exact h) ?_
  go_big_quiet_step (fail)
  refine wpQuiet_nil ?_
  refine wpM_read 17 rfl rfl (by kernel_rfl) (fun _ d _ _ _ h => by cases d <;> exact h) ?_
  go_big_quiet_step (fail)
  refine wpQuiet_nil ?_
  refine wpM_ready [18] (by kernel_rfl) (by decide) (AllM.cons rfl (fun w5 b5 K hK => ?_) AllM.nil)
  go_simp
  have b5a : le w5 (w5.alloc (.cells #[.int .i64 0, .int .i64 0, .slice none 0 0] 36)) := (Below.refl _ _).alloc (Nat.le_refl _) _
  refine hK _ _ (.inr b5a) ?_
  clear hK K b5a
  replace S := (S.step b5).alloc (cs := #[.int .i64 0, .int .i64 0, .slice none 0 0]) (ty := 36)
  generalize hW2 : w5.alloc _ = w6 at S ⊢
  clear hW2 b5 hov gl0 gl1 f0 f1 f2 PW PR
  obtain ⟨g, hg⟩ : ∃ g, g = w5.heap.size := ⟨_, rfl⟩
  rw [← hg] at S ⊢
  clear hg
  refine wpM_ready [19] (by kernel_rfl) (by decide) (AllM.cons rfl (fun w7 b7 K hK => ?_) AllM.nil)
  replace S := S.step b7
  clear b7
  have D := S.blk 0 rfl
  have a0 := D.cell 0 rfl
  have a1 := D.cell 1 rfl
  have a2 := D.cell 2 rfl
  have af := D.free
  clear D
  go_simp
  refine hK _ _ (.inl (closes_of (by kernel_rfl))) ?_
  clear hK K
  refine wpM_done (by kernel_rfl) (fun w9 b9 => ?_)
  generalize hW3 : ((w7.setCell _ _).setCell _ _).setCell _ _ = w8 at b9
  replace S := (S.set3 rfl hW3).step b9
  clear b9 hW3 a0 a1 a2 af wS wT
  replace S := (S.nils movesE 91).sel [1, 2, 0]
  obtain ⟨X, hXX⟩ : ∃ X, X = (p : Int) + (Rs : Int) := ⟨_, rfl⟩
  have bX : -9223372036854775808 ≤ X ∧ X ≤ 9223372036854775807 := by omega
  rw [← hXX] at S ⊢
  have HXX := Lib.hid hXX
  clear hXX
  go_wp2
  go_loopw [8] (fun q wr => ∃ (k : Nat) (vm : Value), k ≤ m ∧ q = .int .i64 k ∧ Star w wr [oB g [.int .i64 u.turner.letters, .int .i64 X, vm] 36, oB w.heap.size [.int .i64 0, .int .i64 0, .slice none 0 0] 36, oE movessE [vm] ((List.range k).flatMap (preCol u r))]) (fun q _ => m - (intOf q).toNat)
  case atStart => exact ⟨0, _, by omega, rfl, S⟩
  case round =>
    clear S
    obtain ⟨k, vm, hk, rfl, S⟩ := hrel
    obtain ⟨ua, un, uc, rfl⟩ := S.slc 2 rfl
    have PW := HW.out.of S.below HW.out.lt
    have c3 := PW.cell 3 rfl
    clear PW
    by_cases hlt : k < m
    case neg =>
      obtain rfl : m = k := by omega
      have x0 := (S.blk 0 rfl).cell 0 rfl
      have x1 := (S.blk 0 rfl).cell 1 rfl
      have x2 := (S.blk 0 rfl).cell 2 rfl
      have R0 := S.blk 1 rfl
      have f0 := R0.cell 0 rfl
      have f1 := R0.cell 1 rfl
      have f2 := R0.cell 2 rfl
      have ff := R0.free
      go_wp2
      generalize hW : ((wr.setCell _ _).setCell _ _).setCell _ _ = w5
      have S5 := (S.sel [1, 2]).set3 rfl hW
      have A3 := S5.blk 0 rfl
      have q0 := A3.cell 0 rfl
      have q1 := A3.cell 1 rfl
      have q2 := A3.cell 2 rfl
      have S6 := ((S5.int bX).int k0).sel [0, 1, 3]
      obtain rfl := HX2.out
      have hTT : preT u r = ⟨u.turner.letters, X, (List.range m).flatMap (preCol u r)⟩ := by rw [HT.out, HXX.out]; unfold preRows; rw [← HM.out]
      rw [hTT]
      exact bodyPost_ret (v := .tuple #[.agg #[.int .i64 u.turner.letters, .int .i64 X, .slice ua un uc], .int .i64 0]) (by simp [results, Tryz.results29, go_sem, q0, q1, q2]) rfl (turn_done (x := ⟨u.turner.letters, X, (List.range m).flatMap (preCol u r)⟩) S6)
    obtain ⟨vk, hrc, hrd⟩ := Q4.out k hlt
    obtain ⟨vo, hoc, hod⟩ := O4.out k hlt
    have hmem := mem_getD (l := u.turner.moves) (k := k) (by rw [← HM.out]; exact hlt)
    have hrow := HKW.out.t.row _ hmem
    have hrl5 := HKW.out.t.len hmem
    have hko : k < u.out.length := by rw [HKW.out.n, ← HM.out]; exact hlt
    obtain ⟨hol, hob⟩ := HKW.out.row k hko
    have hpr : ∀ s, preRow u r k s = (List.range (u.turner.moves[k]?.getD default).length).map fun j => preMove r n ((u.turner.moves[k]?.getD default)[j]?.getD default) (afterL r s ((u.out[k]?.getD default)[j]?.getD ByteArray.empty).data.toList) := fun s => by unfold preRow; rw [← HN.out]
    obtain ⟨row, hrow2⟩ : ∃ y, y = u.turner.moves[k]?.getD default := ⟨_, rfl⟩
    obtain ⟨orow, horow⟩ : ∃ y, y = u.out[k]?.getD default := ⟨_, rfl⟩
    rw [← hrow2] at hrd hrow hrl5 hol hpr
    rw [← horow] at hod hob hol hpr
    have hr3 : 3 ≤ row.length := by have := hrow.1; have := HKW.out.t.l1; omega
    obtain ⟨ma, mc, rfl, m1, m2, -, m4⟩ := rd_movesE hrd
    obtain ⟨sb, so, hma, -, -, -⟩ := m4 0 (by omega)
    obtain rfl := hma
    have hm4 : ∀ j, j < row.length → w.cell? ⟨sb, so + j * 2, none⟩ = some (.int .i64 (row[j]?.getD default).to) ∧ w.cell? ⟨sb, so + j * 2 + 1, none⟩ = some (.int .i64 (row[j]?.getD default).dir) := fun j hj => by
      obtain ⟨b', o', hb, -, hc, -⟩ := m4 j hj
      cases hb
      exact hc
    obtain ⟨pa, pc, rfl, p1, p2, -, p4⟩ := rd_strs hod
    obtain ⟨qb, qo, hpa, -, -, -⟩ := p4 0 (by omega)
    obtain rfl := hpa
    have hp4 : ∀ j, j < orow.length → w.cell? ⟨qb, qo + j, none⟩ = some (.string (orow[j]?.getD ByteArray.empty)) := fun j hj => by
      obtain ⟨b', o', hb, -, hc, -⟩ := p4 j hj
      cases hb
      exact hc
    clear m4 p4
    rw [hol] at p1 hp4 hoc
    obtain ⟨rl, hrl⟩ : ∃ y, y = row.length := ⟨_, rfl⟩
    rw [← hrl] at m1 hm4 hrc p1 hp4 hoc hrl5 hpr hol hr3
    have hll2 : ((List.range k).flatMap (preCol u r)).length ≤ 3600 := by
      rw [preRows_len, ← HN.out]
      exact Nat.le_trans (Nat.mul_le_mul (show k ≤ 12 by omega) hn300) (by decide)
    have HLL := Lib.hid hll2
    have HROW := Lib.hid hrow.2; have HRL := Lib.hid hrl; have HOL := Lib.hid hol; have HOB := Lib.hid hob; have HPR := Lib.hid hpr
    have M4 := Lib.hid hm4; have P4 := Lib.hid hp4; have HOC := Lib.hid hoc; have HRC := Lib.hid hrc
    have i1 : (0 : Int) ≤ (k : Int) := by omega
    have i2 : (k : Int) < (m : Int) := by omega
    clear hmem hrow hko hob hrow2 horow hrd hod hm4 hp4 hrc hoc hpr hrl hol hll2
    go_wp2
    clear c3
    go_loopw [9] (fun q wr => ∃ (s : Nat) (vm : Value), s ≤ n ∧ q = .int .i64 s ∧ Star w wr [oB g [.int .i64 u.turner.letters, .int .i64 X, vm] 36, oB w.heap.size [.int .i64 0, .int .i64 0, .slice none 0 0] 36, oE movessE [vm] ((List.range k).flatMap (preCol u r) ++ (List.range s).map (preRow u r k))]) (fun q _ => n - (intOf q).toNat)
    case atStart => exact ⟨0, _, by omega, rfl, by simpa using S⟩
    case round =>
      clear S
      obtain ⟨s, vm, hs, rfl, S⟩ := hrel
      by_cases hsn : s < n
      case neg =>
        obtain rfl : n = s := by omega
        have hst : (List.range (k + 1)).flatMap (preCol u r) = (List.range k).flatMap (preCol u r) ++ (List.range n).map (preRow u r k) := by rw [preRows_succ, HN.out]; rfl
        have HST := Lib.hid hst
        clear hst
        go_wp2
        go_roundw
        case rel => exact ⟨k + 1, _, by omega, by go_num, by rw [HST.out]; exact S⟩
        case measure => simp [intOf]; omega
      obtain ⟨ya, yn, yc, rfl⟩ := S.slc 2 rfl
      replace S := ((S.alloc (cs := #[]) (ty := 93)).lit0 (α := Move) (E := moveE))
      go_wp2
      generalize hW : wr.alloc _ = w6' at S ⊢
      clear hW
      obtain ⟨g6, hg6⟩ : ∃ g, g = wr.heap.size := ⟨_, rfl⟩
      rw [← hg6] at S ⊢
      clear hg6
      go_loopw [10, 11] (fun vl j wr => ∃ (i : Nat) (v : Value), i ≤ rl ∧ vl = v ∧ j = .int .i64 i ∧ Star w wr [oE movesE [v] ((List.range i).map fun j => preMove r n (row[j]?.getD default) (afterL r s (orow[j]?.getD ByteArray.empty).data.toList)), oB g [.int .i64 u.turner.letters, .int .i64 X, .slice ya yn yc] 36, oB w.heap.size [.int .i64 0, .int .i64 0, .slice none 0 0] 36, oE movessE [.slice ya yn yc] ((List.range k).flatMap (preCol u r) ++ (List.range s).map (preRow u r k))]) (fun _ j _ => rl - (intOf j).toNat)
      case atStart => exact ⟨0, _, by omega, rfl, rfl, S⟩
      case round =>
        clear S
        obtain ⟨i, v, hi, rfl, rfl, S⟩ := hrel
        obtain ⟨la, ln, lc, rfl⟩ := S.slc 0 rfl
        have BW := S.below
        have c3 := (HW.out.of BW HW.out.lt).cell 3 rfl
        have y0 := (BW.cell (World.block_lt_of_cell? w _ HOC.out)).trans HOC.out
        clear BW
        by_cases hil : i < rl
        case neg =>
          obtain rfl : rl = i := by omega
          have hst : (List.range k).flatMap (preCol u r) ++ (List.range (s + 1)).map (preRow u r k) = ((List.range k).flatMap (preCol u r) ++ (List.range s).map (preRow u r k)) ++ [(List.range rl).map fun j => preMove r n (row[j]?.getD default) (afterL r s (orow[j]?.getD ByteArray.empty).data.toList)] := by rw [preCol_succ, HPR.out s, List.append_assoc]
          have HST := Lib.hid hst
          have hlm : ((List.range k).flatMap (preCol u r) ++ (List.range s).map (preRow u r k)).length ≤ 1000000000000 := by
            have := HLL.out
            rw [List.length_append, List.length_map, List.length_range]
            omega
          clear hst
          have x2 := (S.blk 1 rfl).cell 2 rfl
          have SC := (S.alloc (cs := #[.slice la ln lc]) (ty := 91)).sel [4, 1, 2, 3]
          go_wp2_with (at_builtin; refine st1_MoveSS SC rfl rfl rfl rfl cell_a1 (one_mem rfl) hlm ?_; intro ja jn jc w9 S9; have x9 := (S9.blk 1 rfl).cell 2 rfl; have cf := (S9.blk 1 rfl).free)
          go_roundw
          case rel => exact ⟨s + 1, _, by omega, by go_num, by rw [HST.out]; exact (S9.sel [1, 2, 0]).set 2 (.slice ja jn jc)⟩
          case measure => simp [intOf]; omega
        obtain ⟨hm0, hm1⟩ := M4.out i hil
        have hq0 := P4.out i hil
        have hok := moveOk_bd' (HROW.out i (by rw [← HRL.out]; exact hil))
        have hout : outOk (orow[i]?.getD ByteArray.empty) = true := by
          have hio : i < orow.length := by rw [HOL.out]; exact hil
          rw [List.getElem?_eq_getElem hio]
          exact HOB.out _ (List.getElem_mem hio)
        have hst : (List.range (i + 1)).map (fun j => preMove r n (row[j]?.getD default) (afterL r s (orow[j]?.getD ByteArray.empty).data.toList)) = ((List.range i).map fun j => preMove r n (row[j]?.getD default) (afterL r s (orow[j]?.getD ByteArray.empty).data.toList)) ++ [preMove r n (row[i]?.getD default) (afterL r s (orow[i]?.getD ByteArray.empty).data.toList)] := by rw [List.range_succ, List.map_append]; rfl
        have hll : ((List.range i).map fun j => preMove r n (row[j]?.getD default) (afterL r s (orow[j]?.getD ByteArray.empty).data.toList)).length ≤ 1000000000000 := by rw [List.length_map, List.length_range]; omega
        have haf := HKR.out.after HL3.out (orow[i]?.getD ByteArray.empty).data.toList s (by rw [← HN.out]; exact hsn) (out_bytes hout)
        rw [← HN.out] at haf
        have hts := out_size hout
        have htb := out_bytes hout
        obtain ⟨mv, hmv⟩ : ∃ y, y = row[i]?.getD default := ⟨_, rfl⟩
        obtain ⟨tx, htx⟩ : ∃ y, y = orow[i]?.getD ByteArray.empty := ⟨_, rfl⟩
        rw [← hmv] at hm0 hm1 hok hst
        rw [← htx] at hq0 hst haf hts htb
        obtain ⟨⟨ht2, htm⟩, hd1, hd2⟩ := hok
        rw [← HM.out] at htm
        have hbd : -9223372036854775808 ≤ mv.dir ∧ mv.dir ≤ 9223372036854775807 := ⟨by omega, by omega⟩
        have HS := Lib.hid hst; have HQ0 := Lib.hid hq0; have HTB := Lib.hid htb; have HM0 := Lib.hid hm0; have HM1 := Lib.hid hm1; have HAF := Lib.hid haf
        have i3 : (0 : Int) ≤ (i : Int) := by omega
        have i4 : (i : Int) < (rl : Int) := by omega
        have HSW := Lib.hid S
        clear hst hmv htx hout hq0 htb hm0 hm1 haf
        go_wp2
        clear c3 y0
        go_loopw [12, 13] (fun vt j wr2 => ∃ (c s1 : Nat), c ≤ tx.size ∧ vt = .int .i64 s1 ∧ j = .int .i64 c ∧ s1 < n ∧ Hid (s1 = afterL r s (tx.data.toList.take c)) ∧ Below wr.heap.size wr wr2) (fun _ j _ => tx.size - (intOf j).toNat)
        case atStart => exact ⟨0, s, by omega, rfl, rfl, hsn, Lib.hid rfl, Below.refl _ _⟩
        case round =>
          obtain ⟨c, s1, hc, rfl, rfl, hs1, HA, BI⟩ := hrel
          have S := HSW.out.step BI
          have BW := S.below
          have c3 := (HW.out.of BW HW.out.lt).cell 3 rfl
          have y0 := (BW.cell (World.block_lt_of_cell? w _ HOC.out)).trans HOC.out
          have y1 := (BW.cell (World.block_lt_of_cell? w _ HQ0.out)).trans HQ0.out
          by_cases hcl : c < tx.size
          case pos =>
            have t5 : (c : Int) < (tx.size : Int) := by omega
            obtain ⟨by8, hbv, htk, hbm⟩ := take_bt tx c hcl
            obtain ⟨hb1, hb2⟩ := HTB.out by8 hbm
            obtain ⟨ch, hch⟩ : ∃ ch, ch = by8.toNat - 97 := ⟨_, rfl⟩
            have hc3 : ch < 3 := by omega
            have w8 : IntKind.u8.wrap (bt tx c - 97) = (ch : Int) := by
              have e : bt tx c - 97 = (ch : Int) := by omega
              rw [e]
              exact IntWalk.u8_in _ ⟨by omega, by omega⟩
            obtain ⟨ho, hlt2⟩ := HKR.out.next HL3.out (s := s1) (c := ch) (by rw [← HN.out]; exact hs1) hc3
            have hstep : nextR r s1 ch = afterL r s (tx.data.toList.take (c + 1)) := by rw [htk, afterL_snoc, ← HA.out, hch]
            obtain ⟨vk, hnc, hnd⟩ := N4.out s1 hs1
            have hm := mem_getD (l := r.next) (k := s1) (by rw [HNN.out]; exact hs1)
            have hrl := (HKR.out.row _ hm).1
            obtain ⟨nrow, hnrow⟩ : ∃ y, y = r.next[s1]?.getD default := ⟨_, rfl⟩
            rw [← hnrow] at hnd hrl ho
            obtain ⟨ja, jc, rfl, j1, j2, -, j4⟩ := rd_ints hnd
            have hl3 : nrow.length = 3 := by have := HL3.out; omega
            rw [hl3] at j1 j4 hnc
            obtain ⟨pb, po, rfl, -, hpc, -, -⟩ := j4 ch hc3
            rw [ho] at hpc
            obtain ⟨s2, hs2⟩ : ∃ y, y = nextR r s1 ch := ⟨_, rfl⟩
            rw [← hs2] at hpc hstep hlt2
            have hlt3 : s2 < n := by rw [HN.out]; exact hlt2
            have z0 := (BW.cell (World.block_lt_of_cell? w _ hnc)).trans hnc
            have z1 := (BW.cell (World.block_lt_of_cell? w _ hpc)).trans hpc
            have PR := HR.out.of BW HR.out.lt
            have d3 := PR.cell 3 rfl
            have g0 := PR.lt
            have g1 := (HW.out.of BW HW.out.lt).lt
            have g2 : nb < wr.heap.size := World.block_lt_of_cell? wr _ z0
            have g3 : pb < wr.heap.size := World.block_lt_of_cell? wr _ z1
            have g4 : ob < wr.heap.size := World.block_lt_of_cell? wr _ y0
            have g5 : qb < wr.heap.size := World.block_lt_of_cell? wr _ y1
            have hb := get_bt tx
            have hov := cell_over wr
            have j5 : (0 : Int) ≤ (s1 : Int) := by omega
            have j6 : (s1 : Int) < (n : Int) := by omega
            have j7 : (0 : Int) ≤ (ch : Int) := by omega
            have j8 : (ch : Int) < 3 := by omega
            have j9 : (0 : Int) ≤ (c : Int) := by omega
            have HSTEP := Lib.hid hstep
            clear hstep hbv htk hbm hb1 hb2 hch ho hnrow hnd hrl j1 j4 hnc hpc hs2 hlt2 hm hl3 BW PR HA
            go_wp2_with fail
            refine wp_region_over (by kernel_rfl) (by kernel_rfl) ?_
            repeat (go_big_quiet_step (fail))
            refine wpQuiet_nil ?_
            intro w5 b5
            clear z0 z1 d3 g0 g1 g2 g3 g4 g5 hov y0 y1 c3 w8 hb
            have BI5 := BI.trans (b5.mono BI.size)
            clear BI b5 S
            go_wp2
            go_roundw
            case rel => exact ⟨c + 1, s2, by omega, rfl, by go_num, hlt3, HSTEP, BI5⟩
            case measure => simp [intOf]; omega
          obtain rfl : c = tx.size := by omega
          have hs2 : s1 = afterL r s tx.data.toList := by rw [HA.out, List.take_of_length_le (by rw [Array.length_toList]; exact Nat.le_refl _)]
          rw [← hs2] at HS
          have f2 := (HW.out.of BW HW.out.lt).cell 2 rfl
          have y2 := (BW.cell (World.block_lt_of_cell? w _ HRC.out)).trans HRC.out
          have q0 := (BW.cell (World.block_lt_of_cell? w _ HM0.out)).trans HM0.out
          have q1 := (BW.cell (World.block_lt_of_cell? w _ HM1.out)).trans HM1.out
          clear hs2 HA BI HAF BW
          go_upto_region 23 with fail
          replace S := S.alloc (cs := #[.int .i64 mv.to, .int .i64 mv.dir]) (ty := 93)
          generalize hW : wr.alloc _ = wk at S ⊢
          clear hW q0 q1 f2 c3 y0 y1 y2
          obtain ⟨tb, htb2⟩ : ∃ y, y = wr.heap.size := ⟨_, rfl⟩
          rw [← htb2] at S ⊢
          clear htb2
          by_cases hto : 0 ≤ mv.to
          case pos =>
            have tA : decide (0 ≤ mv.to) = true := decide_eq_true hto
            obtain ⟨tq, hto2⟩ : ∃ t : Nat, mv.to = t := ⟨mv.to.toNat, by omega⟩
            have hmul : tq * n ≤ 3300 := Nat.le_trans (Nat.mul_le_mul (show tq ≤ 11 by omega) hn300) (by decide)
            obtain ⟨p2, hp2⟩ : ∃ p, p = tq * n := ⟨_, rfl⟩
            have hpz : mv.to * (n : Int) = (p2 : Int) := by rw [hp2, hto2]; push_cast; rfl
            rw [← hp2] at hmul
            have wA : IntKind.i64.wrap (mv.to * (n : Int)) = (p2 : Int) := by rw [hpz]; exact IntWalk.i64_in _ ⟨by omega, by omega⟩
            have wB : IntKind.i64.wrap ((p2 : Int) + (s1 : Int)) = (p2 : Int) + (s1 : Int) := IntWalk.i64_in _ ⟨by omega, by omega⟩
            have hbn : -9223372036854775808 ≤ (p2 : Int) + (s1 : Int) ∧ (p2 : Int) + (s1 : Int) ≤ 9223372036854775807 := ⟨by omega, by omega⟩
            have hF : preMove r n mv s1 = ⟨(p2 : Int) + (s1 : Int), mv.dir⟩ := by unfold preMove; rw [if_neg (by omega), hpz]
            have HSTEP := HS
            rw [hF] at HSTEP
            clear hF hto2 hp2 hpz HS
            have SB := (((S.set 0 (.int .i64 ((p2 : Int) + (s1 : Int)))).alloc (cs := #[.int .i64 ((p2 : Int) + (s1 : Int)), .int .i64 mv.dir]) (ty := 93)).move (x := ((p2 : Int) + (s1 : Int) : Int)) (y := mv.dir) hbn hbd).sel [3, 0, 4, 5, 6]
            have b0 := (S.blk 0 rfl).cell 0 rfl
            have b1 := (S.blk 0 rfl).cell 1 rfl
            have bf := (S.blk 0 rfl).free
            clear S
            go_wp2_with (at_builtin; refine st1_MoveS SB rfl rfl rfl rfl cell_s1 (one_mem2 rfl rfl) hll ?_; intro ja jn jc w9 S9)
            go_roundw
            case rel => exact ⟨i + 1, _, by omega, rfl, by go_num, by rw [HSTEP.out]; exact S9⟩
            case measure => simp [intOf]; omega
          have tA : decide (0 ≤ mv.to) = false := decide_eq_false hto
          by_cases hm1 : mv.to = -1
          case neg =>
            have tB : (mv.to == -1) = false := by simpa using hm1
            have hbn : -9223372036854775808 ≤ mv.to ∧ mv.to ≤ 9223372036854775807 := ⟨by omega, by omega⟩
            have hF : preMove r n mv s1 = ⟨mv.to, mv.dir⟩ := by unfold preMove; rw [if_pos (by omega), if_neg (fun e => hm1 e.1)]
            have HSTEP := HS
            rw [hF] at HSTEP
            clear hF hm1 HS
            have SB := ((S.alloc (cs := #[.int .i64 (mv.to), .int .i64 mv.dir]) (ty := 93)).move (x := (mv.to : Int)) (y := mv.dir) hbn hbd).sel [3, 0, 4, 5, 6]
            have b0 := (S.blk 0 rfl).cell 0 rfl
            have b1 := (S.blk 0 rfl).cell 1 rfl
            have bf := (S.blk 0 rfl).free
            clear S
            go_wp2_with (at_builtin; refine st1_MoveS SB rfl rfl rfl rfl cell_a1 (one_mem2 rfl rfl) hll ?_; intro ja jn jc w9 S9)
            go_roundw
            case rel => exact ⟨i + 1, _, by omega, rfl, by go_num, by rw [HSTEP.out]; exact S9⟩
            case measure => simp [intOf]; omega
          have tB : (mv.to == -1) = true := by simpa using hm1
          have hz := HZ.out s1 hs1
          have BW := S.below
          have z0 := (BW.cell (World.block_lt_of_cell? w _ hz)).trans hz
          have e2 := (HR.out.of BW HR.out.lt).cell 2 rfl
          have i5 : (0 : Int) ≤ (s1 : Int) := by omega
          have i6 : (s1 : Int) < (n : Int) := by omega
          clear hz BW
          cases hac2 : r.accept[s1]?.getD false
          case false =>
            rw [hac2] at z0
            have hbn : -9223372036854775808 ≤ (-2 : Int) ∧ (-2 : Int) ≤ 9223372036854775807 := by decide
            have hF : preMove r n mv s1 = ⟨-2, mv.dir⟩ := by unfold preMove; rw [if_pos (by omega), if_pos ⟨hm1, hac2⟩]
            have HSTEP := HS
            rw [hF] at HSTEP
            clear hF HS hac2
            have SB := (((S.set 0 (.int .i64 (-2))).alloc (cs := #[.int .i64 (-2), .int .i64 mv.dir]) (ty := 93)).move (x := (-2 : Int)) (y := mv.dir) hbn hbd).sel [3, 0, 4, 5, 6]
            have b0 := (S.blk 0 rfl).cell 0 rfl
            have b1 := (S.blk 0 rfl).cell 1 rfl
            have bf := (S.blk 0 rfl).free
            clear S
            go_wp2_with (at_builtin; refine st1_MoveS SB rfl rfl rfl rfl cell_s1 (one_mem2 rfl rfl) hll ?_; intro ja jn jc w9 S9)
            go_roundw
            case rel => exact ⟨i + 1, _, by omega, rfl, by go_num, by rw [HSTEP.out]; exact S9⟩
            case measure => simp [intOf]; omega
          case true =>
            rw [hac2] at z0
            rw [hm1] at S
            have hbn : -9223372036854775808 ≤ (-1 : Int) ∧ (-1 : Int) ≤ 9223372036854775807 := by decide
            have hF : preMove r n mv s1 = ⟨-1, mv.dir⟩ := by unfold preMove; rw [if_pos (by omega), if_neg (fun e => by rw [hac2] at e; cases e.2), ← hm1]
            have HSTEP := HS
            rw [hF] at HSTEP
            clear hF HS hac2
            have SB := ((S.alloc (cs := #[.int .i64 (-1), .int .i64 mv.dir]) (ty := 93)).move (x := (-1 : Int)) (y := mv.dir) hbn hbd).sel [3, 0, 4, 5, 6]
            have b0 := (S.blk 0 rfl).cell 0 rfl
            have b1 := (S.blk 0 rfl).cell 1 rfl
            have bf := (S.blk 0 rfl).free
            clear S
            go_wp2_with (at_builtin; refine st1_MoveS SB rfl rfl rfl rfl cell_a1 (one_mem2 rfl rfl) hll ?_; intro ja jn jc w9 S9)
            go_roundw
            case rel => exact ⟨i + 1, _, by omega, rfl, by go_num, by rw [HSTEP.out]; exact S9⟩
            case measure => simp [intOf]; omega

end Go.Proofs.YtcifdkliiljmkaaGreatDoor
