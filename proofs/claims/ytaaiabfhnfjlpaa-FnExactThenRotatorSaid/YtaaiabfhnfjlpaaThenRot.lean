/-
  ThenRotator: what the program and the reference answer (written by a program of this claim's own, gen_thenrot.py).
-/
import Derived.Test.YtaaiabfhnfjlpaaRotOk
import Derived.Test.YtaaiabfhnfjlpaaStep
import Derived.Deep.DeepCutAuto
import Derived.Deep.RegionHeld3
namespace Go.Proofs.Ytaaiabfhnfjlpaa
open Go.RowKit

def thenFst (b e : Int) : Int := if e = -1 then b else e
def thenSnd (n e : Int) : Int := if 0 ≤ e then e + n else e

def thenRotator (r s : Rot) : Rot × Int :=
  if validRot r && validRot s then (if r.letters = s.letters then (if r.next.length + s.next.length ≤ 6 then
    (⟨r.letters, r.start, r.next ++ plusAll s.next r.next.length, r.fin.map (thenFst (s.start + r.next.length)) ++ s.fin.map (thenSnd r.next.length)⟩, 0) else (default, 3)) else (default, 2)) else (default, 1)

theorem cnt_thenRotator (r s : Rot) : rotsM.cnt (thenRotator r s).1 ≤ 4611686018427387000 := by
  unfold thenRotator
  split
  · rename_i h
    rw [Bool.and_eq_true] at h
    have k := rotOk h.1
    have k' := rotOk h.2
    split
    · split
      · have h1 := cntL_rows_le r.next 3 (fun x hx => by have := (k.row x hx).1; have := k.l3; omega)
        have h2 := cntL_rows_le (plusAll s.next r.next.length) 3 (fun x hx => by
          unfold plusAll at hx
          obtain ⟨y, hy, rfl⟩ := List.mem_map.1 hx
          have := (k'.row y hy).1; have := k'.l3; rw [List.length_map]; omega)
        have h3 : (plusAll s.next r.next.length).length = s.next.length := by unfold plusAll; rw [List.length_map]
        rw [h3] at h2
        have := k.n6; have := k.fl; have := k'.n6; have := k'.fl
        show cntL intsM (r.next ++ plusAll s.next r.next.length) + (r.fin.map (thenFst (s.start + r.next.length)) ++ s.fin.map (thenSnd r.next.length)).length ≤ _
        rw [cntL_append, List.length_append, List.length_map, List.length_map]
        omega
      · decide
    · decide
  · decide

set_option maxHeartbeats 8000000 in
set_option maxRecDepth 100000 in
theorem thenRotator_is (x : Rot × Int) (cs : List Value) (r : Rot) (ds : List Value) (s : Rot) (B : Nat) (w : World) (hB0 : B ≤ w.heap.size) (h : rotsE.rd w B cs r) (h' : rotsE.rd w B ds s) (hx : thenRotator r s = x) :
    Calls Try.prog 16 #[.agg cs.toArray, .agg ds.toArray] w (MakesC rotsE x w) := by
  have HX := Lib.hid hx
  have RA := Lib.hid h
  have RB := Lib.hid h'
  obtain ⟨v2, v3, rfl, b1, b2, h2, h3⟩ := rd_Rot h
  obtain ⟨u2, u3, rfl, d1, d2, k2, k3⟩ := rd_Rot h'
  obtain ⟨pa, pc, rfl, p1, p2, -, e2⟩ := rd_slice1 rfl h2
  obtain ⟨qa, qc, rfl, q1, q2, -, e3⟩ := rd_ints h3
  obtain ⟨ra, rc, rfl, r1, r2, -, g2⟩ := rd_slice1 rfl k2
  obtain ⟨ta, tc, rfl, t1, t2, -, g3⟩ := rd_ints k3
  obtain ⟨pn, hpn⟩ : ∃ n, n = r.next.length := ⟨_, rfl⟩
  obtain ⟨qn, hqn⟩ : ∃ n, n = r.fin.length := ⟨_, rfl⟩
  obtain ⟨rn, hrn⟩ : ∃ n, n = s.next.length := ⟨_, rfl⟩
  obtain ⟨tn, htn⟩ : ∃ n, n = s.fin.length := ⟨_, rfl⟩
  rw [← hqn, ← hpn] at RA ⊢
  rw [← htn, ← hrn] at RB ⊢
  rw [← hpn] at p1 e2 h2
  rw [← hqn] at q1 e3
  rw [← hrn] at r1 g2 k2
  rw [← htn] at t1 g3
  have HP := Lib.hid hpn
  have HQ := Lib.hid hqn
  have HR := Lib.hid hrn
  have HT := Lib.hid htn
  have R2 := Lib.hid h2
  have K2 := Lib.hid k2
  have E3 := Lib.hid e3
  have G2 := Lib.hid g2
  have G3 := Lib.hid g3
  clear hx h h' h2 h3 k2 k3 hpn hqn hrn htn e2 e3 g2 g3
  have S := (((Star.nil w).alloc (cs := #[.int .i64 r.letters, .int .i64 r.start, .slice pa pn pc, .slice qa qn qc]) (ty := 28)).alloc (cs := #[.int .i64 s.letters, .int .i64 s.start, .slice ra rn rc, .slice ta tn tc]) (ty := 28)).alloc (cs := #[.int .i64 0, .int .i64 0, .slice none 0 0, .slice none 0 0]) (ty := 28)
  rw [World.size_alloc, World.size_alloc] at S
  go_enter Try.func16, Try.ntmps16
  go_wp2_with fail
  generalize hW : ((w.alloc _).alloc _).alloc _ = w0 at S ⊢
  clear hW
  replace S : Star w w0 [oB (w.heap.size + 1 + 1) [.int .i64 0, .int .i64 0, .slice none 0 0, .slice none 0 0] 28, oB (w.heap.size + 1) [.int .i64 s.letters, .int .i64 s.start, .slice ra rn rc, .slice ta tn tc] 28, oB w.heap.size [.int .i64 r.letters, .int .i64 r.start, .slice pa pn pc, .slice qa qn qc] 28] := S
  refine (validRotator_any _ r B _ (Nat.le_trans hB0 S.below.size) (rotsE.rd_of (S.below.mono hB0) RA.out)).mono ?_
  rintro e w1 ⟨rfl, b⟩
  replace S := S.step b
  clear b
  have a0 := (S.blk 2 rfl).cell 0 rfl
  have e0 := (S.blk 1 rfl).cell 0 rfl
  have a1 := (S.blk 2 rfl).cell 1 rfl
  have e1 := (S.blk 1 rfl).cell 1 rfl
  have a2 := (S.blk 2 rfl).cell 2 rfl
  have e2 := (S.blk 1 rfl).cell 2 rfl
  have a3 := (S.blk 2 rfl).cell 3 rfl
  have e3 := (S.blk 1 rfl).cell 3 rfl
  cases h1 : validRot r
  case false =>
    have R0 := S.blk 0 rfl
    have c0 := R0.cell 0 rfl
    have c1 := R0.cell 1 rfl
    have c2 := R0.cell 2 rfl
    have c3 := R0.cell 3 rfl
    have f0 := R0.free
    go_wp2
    generalize hW : (((w1.setCell _ _).setCell _ _).setCell _ _).setCell _ _ = w3
    replace S := S.set4 rfl hW
    have A3 := S.blk 0 rfl
    have q0 := A3.cell 0 rfl
    have q1 := A3.cell 1 rfl
    have q2 := A3.cell 2 rfl
    have q3 := A3.cell 3 rfl
    obtain rfl : x = (default, 1) := by rw [← HX.out]; unfold thenRotator; rw [h1]; rfl
    exact bodyPost_ret (v := .tuple #[.agg #[.int .i64 0, .int .i64 0, .slice none 0 0, .slice none 0 0], .int .i64 1]) (by simp [results, Try.results16, go_sem, q0, q1, q2, q3]) rfl (S.flat (ow_Rot_zero _)).done
  go_wp2_with fail
  refine (validRotator_any _ s B _ (Nat.le_trans hB0 S.below.size) (rotsE.rd_of (S.below.mono hB0) RB.out)).mono ?_
  rintro e w2 ⟨rfl, b⟩
  replace S := S.step b
  clear b
  clear a0 a1 a2 a3 e0 e1 e2 e3
  have a0 := (S.blk 2 rfl).cell 0 rfl
  have e0 := (S.blk 1 rfl).cell 0 rfl
  have a1 := (S.blk 2 rfl).cell 1 rfl
  have e1 := (S.blk 1 rfl).cell 1 rfl
  have a2 := (S.blk 2 rfl).cell 2 rfl
  have e2 := (S.blk 1 rfl).cell 2 rfl
  have a3 := (S.blk 2 rfl).cell 3 rfl
  have e3 := (S.blk 1 rfl).cell 3 rfl
  cases h2 : validRot s
  case false =>
    have R0 := S.blk 0 rfl
    have c0 := R0.cell 0 rfl
    have c1 := R0.cell 1 rfl
    have c2 := R0.cell 2 rfl
    have c3 := R0.cell 3 rfl
    have f0 := R0.free
    go_wp2
    generalize hW : (((w2.setCell _ _).setCell _ _).setCell _ _).setCell _ _ = w3
    replace S := S.set4 rfl hW
    have A3 := S.blk 0 rfl
    have q0 := A3.cell 0 rfl
    have q1 := A3.cell 1 rfl
    have q2 := A3.cell 2 rfl
    have q3 := A3.cell 3 rfl
    obtain rfl : x = (default, 1) := by rw [← HX.out]; unfold thenRotator; rw [h1, h2]; rfl
    exact bodyPost_ret (v := .tuple #[.agg #[.int .i64 0, .int .i64 0, .slice none 0 0, .slice none 0 0], .int .i64 1]) (by simp [results, Try.results16, go_sem, q0, q1, q2, q3]) rfl (S.flat (ow_Rot_zero _)).done
  have K := rotOk h1
  have K' := rotOk h2
  have H12 : Hid (validRot r = true ∧ validRot s = true) := Lib.hid ⟨h1, h2⟩
  clear h1 h2
  by_cases hl : r.letters = s.letters
  case neg =>
    have tl : (r.letters != s.letters) = true := by simp [hl]
    clear K K'
    have HL := Lib.hid hl; clear hl
    have R0 := S.blk 0 rfl
    have c0 := R0.cell 0 rfl
    have c1 := R0.cell 1 rfl
    have c2 := R0.cell 2 rfl
    have c3 := R0.cell 3 rfl
    have f0 := R0.free
    go_wp2
    generalize hW : (((w2.setCell _ _).setCell _ _).setCell _ _).setCell _ _ = w3
    replace S := S.set4 rfl hW
    have A3 := S.blk 0 rfl
    have q0 := A3.cell 0 rfl
    have q1 := A3.cell 1 rfl
    have q2 := A3.cell 2 rfl
    have q3 := A3.cell 3 rfl
    obtain rfl : x = (default, 2) := by rw [← HX.out]; unfold thenRotator; rw [H12.out.1, H12.out.2, if_pos (show (true && true) = true from rfl), if_neg HL.out]
    exact bodyPost_ret (v := .tuple #[.agg #[.int .i64 0, .int .i64 0, .slice none 0 0, .slice none 0 0], .int .i64 2]) (by simp [results, Try.results16, go_sem, q0, q1, q2, q3]) rfl (S.flat (ow_Rot_zero _)).done
  have tl : (r.letters != s.letters) = false := by simp [hl]
  have HL := Lib.hid hl; clear hl
  have w6 : IntKind.i64.wrap ((pn : Int) + (rn : Int)) = (pn : Int) + (rn : Int) := by have := K.n6; have := K'.n6; have := HP.out; have := HR.out; exact IntWalk.i64_in _ ⟨by omega, by omega⟩
  by_cases h6 : pn + rn ≤ 6
  case neg =>
    have h6' : (6 : Int) < (pn : Int) + (rn : Int) := by omega
    clear K K'
    have R0 := S.blk 0 rfl
    have c0 := R0.cell 0 rfl
    have c1 := R0.cell 1 rfl
    have c2 := R0.cell 2 rfl
    have c3 := R0.cell 3 rfl
    have f0 := R0.free
    go_wp2
    generalize hW : (((w2.setCell _ _).setCell _ _).setCell _ _).setCell _ _ = w3
    replace S := S.set4 rfl hW
    have A3 := S.blk 0 rfl
    have q0 := A3.cell 0 rfl
    have q1 := A3.cell 1 rfl
    have q2 := A3.cell 2 rfl
    have q3 := A3.cell 3 rfl
    obtain rfl : x = (default, 3) := by rw [← HX.out]; unfold thenRotator; rw [H12.out.1, H12.out.2, if_pos (show (true && true) = true from rfl), if_pos HL.out, if_neg (by rw [← HP.out, ← HR.out]; exact h6)]
    exact bodyPost_ret (v := .tuple #[.agg #[.int .i64 0, .int .i64 0, .slice none 0 0, .slice none 0 0], .int .i64 3]) (by simp [results, Try.results16, go_sem, q0, q1, q2, q3]) rfl (S.flat (ow_Rot_zero _)).done
  have h6' : ¬ (6 : Int) < (pn : Int) + (rn : Int) := by omega
  have HX : Hid (x = (⟨r.letters, r.start, r.next ++ plusAll s.next r.next.length, r.fin.map (thenFst (s.start + r.next.length)) ++ s.fin.map (thenSnd r.next.length)⟩, 0)) := Lib.hid (by rw [← HX.out]; unfold thenRotator; rw [H12.out.1, H12.out.2, if_pos (show (true && true) = true from rfl), if_pos HL.out, if_pos (by rw [← HP.out, ← HR.out]; exact h6)])
  have KH := Lib.hid K; have KK := Lib.hid K'
  clear K K' H12
  go_wp2_with fail
  refine (size_intss _ r.next B _ (intssE.rd_of (S.below.mono hB0) R2.out)).mono ?_
  rintro e w3 ⟨rfl, b⟩
  rw [← HP.out]
  replace S := S.step b
  clear b a0 a1 a2 a3 e0 e1 e2 e3 h6' w6 tl
  have A0 := S.blk 2 rfl
  have HA := Lib.hid A0
  have d0 := A0.cell 0 rfl
  have d1 := A0.cell 1 rfl
  have d2 := A0.cell 2 rfl
  have d3 := A0.cell 3 rfl
  have la := A0.lt
  clear A0
  have HS := Lib.hid S; clear S
  go_upto_region 8 with fail
  go_cut [7] (fun s4 wx => ∃ g : Nat, ∃ ca cn cc, s4 = .pointer (some ⟨g, 0, none⟩) ∧ Star w wx [oB g [.int .i64 r.letters, .int .i64 r.start, .slice ca cn cc, .slice none 0 0] 28, oE intssE [.slice ca cn cc] r.next, oB (w.heap.size + 1 + 1) [.int .i64 0, .int .i64 0, .slice none 0 0, .slice none 0 0] 28, oB (w.heap.size + 1) [.int .i64 s.letters, .int .i64 s.start, .slice ra rn rc, .slice ta tn tc] 28, oB w.heap.size [.int .i64 r.letters, .int .i64 r.start, .slice pa pn pc, .slice qa qn qc] 28])
  case first =>
    have hne : w.heap.size ≠ w3.heap.size := by omega
    have da0 := fun o => (HA.out.alloc o).cell 0 rfl
    have da1 := fun o => (HA.out.alloc o).cell 1 rfl
    have da2 := fun o => (HA.out.alloc o).cell 2 rfl
    go_region_held3 (fun w' => w'.cell? ⟨w.heap.size, 0, none⟩ = some (.int .i64 r.letters) ∧ w'.cell? ⟨w.heap.size, 1, none⟩ = some (.int .i64 r.start) ∧ w'.cell? ⟨w.heap.size, 2, none⟩ = some (.slice pa pn pc))
      (first
        | (with_reducible exact ⟨d0, d1, d2⟩)
        | (with_reducible exact ⟨da0 _, da1 _, da2 _⟩)
        | (with_reducible exact ⟨e0, e1, e2⟩)
        | (with_reducible exact ⟨ea0 _, ea1 _, ea2 _⟩)
        | (with_reducible exact ⟨es0 _ _ _ _, es1 _ _ _ _, es2 _ _ _ _⟩)
        | go_keep)
      (first
        | (go_at_call 30
           with_reducible show Calls _ _ _ (World.drew (World.alloc _ _)) _
           refine (ownLists_ints _ r.next B _ (by exact Nat.le_trans hB0 (HS.out.below.alloc HS.out.below.size _).size) (by exact intssE.rd_of ((HS.out.below.alloc HS.out.below.size _).drew.mono hB0) R2.out) (by have := KH.out.n6; omega) (fun x hx => by have := (KH.out.row x hx).1; have := KH.out.l3; omega)).mono ?_
           rintro e w2 ⟨vc, fc, rfl, oc, nc, lo, b9⟩
           skip
           have N2 : Blk w2 w3.heap.size [.int .i64 0, .int .i64 0, .slice none 0 0, .slice none 0 0] 28 := (Blk.new w3 #[.int .i64 0, .int .i64 0, .slice none 0 0, .slice none 0 0] 28).of ((Below.refl _ _).drew.trans b9) (by simp)
           have c9 : Below w3.heap.size w3 w2 := ((Below.refl _ w3).alloc (Nat.le_refl _) _).drew.trans (b9.mono (by simp))
           have n0 := N2.cell 0 rfl
           have n1 := N2.cell 1 rfl
           have n2 := N2.cell 2 rfl
           have n3 := N2.cell 3 rfl
           have nf := N2.free
           have A1 := HA.out.of c9 la
           have e0 := A1.cell 0 rfl
           have e1 := A1.cell 1 rfl
           have e2 := A1.cell 2 rfl
           have ea0 := fun o => (A1.alloc o).cell 0 rfl
           have ea1 := fun o => (A1.alloc o).cell 1 rfl
           have ea2 := fun o => (A1.alloc o).cell 2 rfl
           have es0 := fun v0 v1 v2 v3 => ((((A1.other (a := ⟨w3.heap.size, 0, none⟩) hne v0).other (a := ⟨w3.heap.size, 1, none⟩) hne v1).other (a := ⟨w3.heap.size, 2, none⟩) hne v2).other (a := ⟨w3.heap.size, 3, none⟩) hne v3).cell 0 rfl
           have es1 := fun v0 v1 v2 v3 => ((((A1.other (a := ⟨w3.heap.size, 0, none⟩) hne v0).other (a := ⟨w3.heap.size, 1, none⟩) hne v1).other (a := ⟨w3.heap.size, 2, none⟩) hne v2).other (a := ⟨w3.heap.size, 3, none⟩) hne v3).cell 1 rfl
           have es2 := fun v0 v1 v2 v3 => ((((A1.other (a := ⟨w3.heap.size, 0, none⟩) hne v0).other (a := ⟨w3.heap.size, 1, none⟩) hne v1).other (a := ⟨w3.heap.size, 2, none⟩) hne v2).other (a := ⟨w3.heap.size, 3, none⟩) hne v3).cell 2 rfl
           clear A1
           obtain ⟨ca, cn, cc, rfl⟩ := ow_slice oc)
        | (go_at_call 30
           refine (ownLists_ints _ r.next B _ (by exact Nat.le_trans hB0 HS.out.below.size) (by exact intssE.rd_of (HS.out.below.drew.mono hB0) R2.out) (by have := KH.out.n6; omega) (fun x hx => by have := (KH.out.row x hx).1; have := KH.out.l3; omega)).mono ?_
           rintro e w2 ⟨vc, fc, rfl, oc, nc, lo, b9⟩
           skip
           have c9 : Below w3.heap.size w3 w2 := (Below.refl _ w3).drew.trans b9
           have A1 := HA.out.of c9 la
           have e0 := A1.cell 0 rfl
           have e1 := A1.cell 1 rfl
           have e2 := A1.cell 2 rfl
           have ea0 := fun o => (A1.alloc o).cell 0 rfl
           have ea1 := fun o => (A1.alloc o).cell 1 rfl
           have ea2 := fun o => (A1.alloc o).cell 2 rfl
           have es0 := fun v0 v1 v2 v3 => ((((A1.other (a := ⟨w3.heap.size, 0, none⟩) hne v0).other (a := ⟨w3.heap.size, 1, none⟩) hne v1).other (a := ⟨w3.heap.size, 2, none⟩) hne v2).other (a := ⟨w3.heap.size, 3, none⟩) hne v3).cell 0 rfl
           have es1 := fun v0 v1 v2 v3 => ((((A1.other (a := ⟨w3.heap.size, 0, none⟩) hne v0).other (a := ⟨w3.heap.size, 1, none⟩) hne v1).other (a := ⟨w3.heap.size, 2, none⟩) hne v2).other (a := ⟨w3.heap.size, 3, none⟩) hne v3).cell 1 rfl
           have es2 := fun v0 v1 v2 v3 => ((((A1.other (a := ⟨w3.heap.size, 0, none⟩) hne v0).other (a := ⟨w3.heap.size, 1, none⟩) hne v1).other (a := ⟨w3.heap.size, 2, none⟩) hne v2).other (a := ⟨w3.heap.size, 3, none⟩) hne v3).cell 2 rfl
           clear A1
           obtain ⟨ca, cn, cc, rfl⟩ := ow_slice oc))
    all_goals
      go_wp2_with fail
      go_meet
      try clear da0 da1 da2 e0 e1 e2 ea0 ea1 ea2 es0 es1 es2
      first
        | (refine ⟨_, ca, cn, cc, rfl, ?_⟩
           have S1 := (HS.out.made oc nc lo c9).alloc (cs := #[.int .i64 r.letters, .int .i64 r.start, .slice ca cn cc, .slice none 0 0]) (ty := 28)
           exact S1)
        | (refine ⟨w3.heap.size, ca, cn, cc, rfl, ?_⟩
           have S1 := (HS.out.alloc (cs := #[.int .i64 0, .int .i64 0, .slice none 0 0, .slice none 0 0]) (ty := 28)).made oc nc (fun b hb => by have := lo b hb; simpa using this) (by first | exact (Below.refl _ _).drew.trans b9)
           have S2 := (S1.sel [1, 0, 2, 3, 4]).set4 (v0 := .int .i64 r.letters) (v1 := .int .i64 r.start) (v2 := .slice ca cn cc) (v3 := .slice none 0 0) (w' := _) rfl rfl
           exact S2)
  case rest =>
    clear HS HA d0 d1 d2 d3 la
    obtain ⟨g, ca, cn, cc, rfl, S⟩ := hcut
    replace S := (S.nils intE 2).sel [1, 2, 3, 4, 5, 0]
    have d3 := (S.blk 4 rfl).cell 3 rfl
    have x3 := (S.blk 0 rfl).cell 3 rfl
    have la := (S.blk 4 rfl).lt
    go_wp2
    clear d3 x3 la
    go_loopw [58] (fun q wr => ∃ k : Nat, ∃ ve, k ≤ qn ∧ q = .int .i64 k ∧ Star w wr [oB g [.int .i64 r.letters, .int .i64 r.start, .slice ca cn cc, ve] 28, oE intssE [.slice ca cn cc] (r.next), oB (w.heap.size + 1 + 1) [.int .i64 0, .int .i64 0, .slice none 0 0, .slice none 0 0] 28, oB (w.heap.size + 1) [.int .i64 s.letters, .int .i64 s.start, .slice ra rn rc, .slice ta tn tc] 28, oB w.heap.size [.int .i64 r.letters, .int .i64 r.start, .slice pa pn pc, .slice qa qn qc] 28, oE intsE [ve] ((r.fin.take k).map (thenFst (s.start + (pn : Int))))]) (fun q _ => qn - (intOf q).toNat)
    case atStart => exact ⟨0, _, by omega, rfl, by simpa using S⟩
    case round =>
      clear S
      obtain ⟨k, ve, hk, rfl, S⟩ := hrel
      obtain ⟨ea, en, ec, rfl⟩ := S.slc 5 rfl
      have X0 := S.blk 0 rfl
      have c2 := X0.cell 2 rfl
      have c3 := X0.cell 3 rfl
      have y3 := (S.blk 4 rfl).cell 3 rfl
      have y1 := (S.blk 3 rfl).cell 1 rfl
      by_cases hlt : k < qn
      case neg =>
        obtain rfl : qn = k := by omega
        have ht : r.fin.take qn = r.fin := List.take_of_length_le (by rw [HQ.out]; exact Nat.le_refl _)
        rw [ht] at S
        clear ht X0
        have z2 := (S.blk 3 rfl).cell 2 rfl
        go_wp2
        clear z2
        go_loopw [78] (fun q wr => ∃ k : Nat, ∃ vn, k ≤ rn ∧ q = .int .i64 k ∧ Star w wr [oB g [.int .i64 r.letters, .int .i64 r.start, vn, .slice ea en ec] 28, oE intssE [vn] (r.next ++ plusAll (s.next.take k) (pn : Int)), oB (w.heap.size + 1 + 1) [.int .i64 0, .int .i64 0, .slice none 0 0, .slice none 0 0] 28, oB (w.heap.size + 1) [.int .i64 s.letters, .int .i64 s.start, .slice ra rn rc, .slice ta tn tc] 28, oB w.heap.size [.int .i64 r.letters, .int .i64 r.start, .slice pa pn pc, .slice qa qn qc] 28, oE intsE [.slice ea en ec] (r.fin.map (thenFst (s.start + (pn : Int))))]) (fun q _ => rn - (intOf q).toNat)
        case atStart => exact ⟨0, _, by omega, rfl, by simpa [plusAll] using S⟩
        case round =>
          clear S
          obtain ⟨k, vn, hk, rfl, S⟩ := hrel
          obtain ⟨na, nn, nc, rfl⟩ := S.slc 1 rfl
          by_cases hlt : k < rn
          case neg =>
            obtain rfl : rn = k := by omega
            have ht : s.next.take rn = s.next := List.take_of_length_le (by rw [HR.out]; exact Nat.le_refl _)
            rw [ht] at S
            clear ht
            have y3 := (S.blk 3 rfl).cell 3 rfl
            go_wp2
            clear y3
            go_loopw [106] (fun q wr => ∃ k : Nat, ∃ ve, k ≤ tn ∧ q = .int .i64 k ∧ Star w wr [oB g [.int .i64 r.letters, .int .i64 r.start, .slice na nn nc, ve] 28, oE intssE [.slice na nn nc] (r.next ++ plusAll s.next (pn : Int)), oB (w.heap.size + 1 + 1) [.int .i64 0, .int .i64 0, .slice none 0 0, .slice none 0 0] 28, oB (w.heap.size + 1) [.int .i64 s.letters, .int .i64 s.start, .slice ra rn rc, .slice ta tn tc] 28, oB w.heap.size [.int .i64 r.letters, .int .i64 r.start, .slice pa pn pc, .slice qa qn qc] 28, oE intsE [ve] ((r.fin.map (thenFst (s.start + (pn : Int)))) ++ (s.fin.take k).map (thenSnd (pn : Int)))]) (fun q _ => tn - (intOf q).toNat)
            case atStart => exact ⟨0, _, by omega, rfl, by simpa using S⟩
            case round =>
              clear S
              obtain ⟨k, ve, hk, rfl, S⟩ := hrel
              obtain ⟨ea, en, ec, rfl⟩ := S.slc 5 rfl
              have X0 := S.blk 0 rfl
              have c2 := X0.cell 2 rfl
              have c3 := X0.cell 3 rfl
              have y3 := (S.blk 3 rfl).cell 3 rfl
              have y1 := (S.blk 3 rfl).cell 1 rfl
              by_cases hlt : k < tn
              case neg =>
                obtain rfl : tn = k := by omega
                have ht : s.fin.take tn = s.fin := List.take_of_length_le (by rw [HT.out]; exact Nat.le_refl _)
                rw [ht] at S
                clear ht X0
                have R0 := S.blk 2 rfl
                have f0 := R0.cell 0 rfl
                have f1 := R0.cell 1 rfl
                have f2 := R0.cell 2 rfl
                have f3 := R0.cell 3 rfl
                have ff := R0.free
                have c0 := (S.blk 0 rfl).cell 0 rfl
                have c1 := (S.blk 0 rfl).cell 1 rfl
                go_wp2
                generalize hW : (((wr.setCell _ _).setCell _ _).setCell _ _).setCell _ _ = w5
                have S5 := (S.sel [2, 1, 5]).set4 rfl hW
                have A3 := S5.blk 0 rfl
                have q0 := A3.cell 0 rfl
                have q1 := A3.cell 1 rfl
                have q2 := A3.cell 2 rfl
                have q3 := A3.cell 3 rfl
                have S6 := ((S5.int b1).int b2).sel [1, 0, 3, 4]
                obtain rfl := HX.out
                rw [← HP.out]
                exact bodyPost_ret (v := .tuple #[.agg #[.int .i64 r.letters, .int .i64 r.start, .slice na nn nc, .slice ea en ec], .int .i64 0]) (by simp [results, Try.results16, go_sem, q0, q1, q2, q3]) rfl (rot_done (x := ⟨r.letters, r.start, r.next ++ plusAll s.next pn, (r.fin.map (thenFst (s.start + (pn : Int)))) ++ s.fin.map (thenSnd (pn : Int))⟩) S6)
              obtain ⟨bb, oo, rfl, -, hc, -, -⟩ := G3.out k hlt
              have hkl : k < s.fin.length := by rw [← HT.out]; exact hlt
              have hget : s.fin[k]?.getD 0 = s.fin[k] := by simp [List.getElem?_eq_getElem hkl]
              rw [hget] at hc
              have hbd := KK.out.fin _ (List.getElem_mem hkl)
              have hn6 := KK.out.n6
              have hm6 := KH.out.n6
              have hs0 := KK.out.s0
              have hsn := KK.out.sn
              have hs6 := KK.out.n6
              have hpp := HP.out
              have g1 := (S.below.cell (World.block_lt_of_cell? w _ hc)).trans hc
              have htk : (s.fin.take (k + 1)).map (thenSnd (pn : Int)) = (s.fin.take k).map (thenSnd (pn : Int)) ++ [(thenSnd (pn : Int)) s.fin[k]] := by rw [List.take_succ_eq_append_getElem hkl, List.map_append]; rfl
              have hll : ((r.fin.map (thenFst (s.start + (pn : Int)))) ++ (s.fin.take k).map (thenSnd (pn : Int))).length ≤ 1000000000000 := by
                have := List.length_take_le k s.fin
                have := KH.out.fl; have := KK.out.fl; have := HR.out; have := HQ.out; have := HT.out
                simp only [List.length_append, List.length_map]
                omega
              obtain ⟨e, hee⟩ : ∃ e, e = s.fin[k] := ⟨_, rfl⟩
              rw [← hee] at hbd g1 htk
              have HTK := Lib.hid htk
              have HPP := Lib.hid hpp
              clear hc hget htk hee hpp
              by_cases he : 0 ≤ e
              all_goals
                first
                  | (have hv : (thenSnd (pn : Int)) e = e + (pn : Int) := if_pos he
                     have HV := Lib.hid hv; clear hv
                     have hw : IntKind.i64.wrap (e + (pn : Int)) = e + (pn : Int) := IntWalk.i64_in _ ⟨by have := HPP.out; omega, by have := HPP.out; omega⟩
                     have tt : (decide (0 ≤ e)) = true := by simp [he]
                     have HE := Lib.hid he; clear he
                     have SA := ((S.alloc (cs := #[.int .i64 (e + (pn : Int))]) (ty := 2)).int (x := e + (pn : Int)) ⟨by have := HPP.out; omega, by have := HPP.out; omega⟩).sel [7, 0, 2, 3, 4, 5, 6])
                  | (have hv : (thenSnd (pn : Int)) e = e := if_neg he
                     have HV := Lib.hid hv; clear hv
                     have tt : (decide (0 ≤ e)) = false := by simp [he]
                     have HE := Lib.hid he; clear he
                     have SA := ((S.alloc (cs := #[.int .i64 (e)]) (ty := 2)).int (x := e) ⟨by have := HPP.out; omega, by have := HPP.out; omega⟩).sel [7, 0, 2, 3, 4, 5, 6])
                go_wp2_with (at_builtin; refine st1_Int64S SA rfl rfl rfl rfl cell_a1 (one_mem rfl) hll ?_; intro za zn zc w9 S9; have c3 := (S9.blk 1 rfl).cell 3 rfl; have cf := (S9.blk 1 rfl).free)
                have SB := (S9.sel [1, 2, 3, 4, 5, 0]).set 3 (.slice za zn zc)
                go_roundw
                case rel => exact ⟨k + 1, _, by omega, by go_num, by rw [HTK.out, HV.out]; simpa using SB⟩
                case measure => simp [intOf]; omega
          obtain ⟨bb, oo, vk, rfl, -, hc, hr⟩ := G2.out k hlt
          have hlk : k < s.next.length := by rw [← HR.out]; exact hlt
          have hget : s.next[k]?.getD default = s.next[k] := by simp [List.getElem?_eq_getElem hlk]
          rw [hget] at hr
          obtain ⟨hlen, hbd⟩ := KK.out.row _ (List.getElem_mem hlk)
          have hl3 := KK.out.l3
          have hk6 := KK.out.n6
          have hm6 := KH.out.n6
          have hpp := HP.out
          have htk := List.take_succ_eq_append_getElem hlk
          obtain ⟨row, hrow⟩ : ∃ r, r = s.next[k] := ⟨_, rfl⟩
          rw [← hrow] at hr hlen htk hbd
          obtain ⟨ja, jc, rfl, j1, j2, -, e5⟩ := rd_ints hr
          have HT1 : Hid (r.next ++ plusAll (s.next.take (k + 1)) (pn : Int) = (r.next ++ plusAll (s.next.take k) (pn : Int)) ++ [row.map (· + (pn : Int))]) := Lib.hid (by unfold plusAll; rw [htk, List.map_append, List.append_assoc]; rfl)
          obtain ⟨m, hm⟩ : ∃ m, m = row.length := ⟨_, rfl⟩
          rw [← hm] at j1 e5 hlen hc
          have E5 := Lib.hid e5
          have HBD := Lib.hid hbd
          have HMM := Lib.hid hm
          have HC := Lib.hid hc
          have HPP := Lib.hid hpp
          have g1 := (S.below.cell (World.block_lt_of_cell? w _ hc)).trans hc
          have hll : (r.next ++ plusAll (s.next.take k) (pn : Int)).length ≤ 1000000000000 := by
            have := List.length_take_le k s.next
            have := HR.out
            unfold plusAll
            rw [List.length_append, List.length_map]
            omega
          clear hc hr hget htk hrow e5 hbd hm hpp
          replace S := (S.alloc (cs := #[]) (ty := 2)).lit0 (α := Int) (E := intE)
          go_wp2
          generalize hW : wr.alloc _ = wa at S ⊢
          clear hW g1
          go_loopw [12, 85] (fun vs q wr => ∃ c : Nat, ∃ vr, c ≤ m ∧ vs = vr ∧ q = .int .i64 c ∧ Star w wr [oE intsE [vr] ((row.take c).map (· + (pn : Int))), oB g [.int .i64 r.letters, .int .i64 r.start, .slice na nn nc, .slice ea en ec] 28, oE intssE [.slice na nn nc] (r.next ++ plusAll (s.next.take k) (pn : Int)), oB (w.heap.size + 1 + 1) [.int .i64 0, .int .i64 0, .slice none 0 0, .slice none 0 0] 28, oB (w.heap.size + 1) [.int .i64 s.letters, .int .i64 s.start, .slice (some ⟨bb, oo, none⟩) rn rc, .slice ta tn tc] 28, oB w.heap.size [.int .i64 r.letters, .int .i64 r.start, .slice pa pn pc, .slice qa qn qc] 28, oE intsE [.slice ea en ec] (r.fin.map (thenFst (s.start + (pn : Int))))]) (fun _ q _ => m - (intOf q).toNat)
          case atStart => exact ⟨0, _, by omega, rfl, rfl, S⟩
          case round =>
            clear S
            obtain ⟨c, vr, hc, rfl, rfl, S⟩ := hrel
            obtain ⟨va, vn, vc, rfl⟩ := S.slc 0 rfl
            by_cases hcm : c < m
            case neg =>
              obtain rfl : c = m := by omega
              have ht : row.take c = row := List.take_of_length_le (by rw [HMM.out]; exact Nat.le_refl _)
              rw [ht] at S
              clear ht
              have c2 := (S.blk 1 rfl).cell 2 rfl
              have SC := (S.alloc (cs := #[.slice va vn vc]) (ty := 23)).sel [3, 1, 2, 4, 5, 6, 7]
              go_wp2_with (at_builtin; refine st1_Int64SS SC rfl rfl rfl rfl cell_a1 (one_mem rfl) hll ?_; intro za zn zc w2 S2; have c2 := (S2.blk 1 rfl).cell 2 rfl; have cf := (S2.blk 1 rfl).free)
              have SB := (S2.sel [1, 0, 2, 3, 4, 5]).set 2 (.slice za zn zc)
              go_roundw
              case rel => exact ⟨k + 1, _, by omega, by go_num, by rw [HT1.out]; exact SB⟩
              case measure => simp [intOf]; omega
            obtain ⟨sb, so, rfl, -, hc5, -, -⟩ := E5.out c hcm
            have hlc : c < row.length := by rw [← HMM.out]; exact hcm
            have hx := HBD.out _ (List.getElem_mem hlc)
            have hget : row[c]?.getD 0 = row[c] := by simp [List.getElem?_eq_getElem hlc]
            rw [hget] at hc5
            have g2 := (S.below.cell (World.block_lt_of_cell? w _ hc5)).trans hc5
            have htc : (row.take (c + 1)).map (· + (pn : Int)) = (row.take c).map (· + (pn : Int)) ++ [row[c] + (pn : Int)] := by rw [List.take_succ_eq_append_getElem hlc, List.map_append]; rfl
            obtain ⟨x', hxx⟩ : ∃ x, x = row[c] := ⟨_, rfl⟩
            rw [← hxx] at hx g2 htc
            have HTC := Lib.hid htc
            clear hget hc5 htc hxx
            have hlm : ((row.take c).map (· + (pn : Int))).length ≤ 1000000000000 := by rw [List.length_map]; have := List.length_take_le c row; omega
            have hb5 : -9223372036854775808 ≤ x' + (pn : Int) ∧ x' + (pn : Int) ≤ 9223372036854775807 := ⟨by have := HPP.out; omega, by have := HPP.out; omega⟩
            have hw : IntKind.i64.wrap (x' + (pn : Int)) = x' + (pn : Int) := IntWalk.i64_in _ hb5
            have SA := ((S.alloc (cs := #[.int .i64 (x' + (pn : Int))]) (ty := 2)).int (x := x' + (pn : Int)) hb5).sel [2, 0, 3, 4, 5, 6, 7, 8]
            go_wp2_with (at_builtin; refine st1_Int64S SA rfl rfl rfl rfl cell_a1 (one_mem rfl) hlm ?_; intro za zn zc w2 S2)
            go_roundw
            case rel => exact ⟨c + 1, _, by omega, rfl, by go_num, by rw [HTC.out]; exact S2⟩
            case measure => simp [intOf]; omega
      obtain ⟨bb, oo, rfl, -, hc, -, -⟩ := E3.out k hlt
      have hkl : k < r.fin.length := by rw [← HQ.out]; exact hlt
      have hget : r.fin[k]?.getD 0 = r.fin[k] := by simp [List.getElem?_eq_getElem hkl]
      rw [hget] at hc
      have hbd := KH.out.fin _ (List.getElem_mem hkl)
      have hn6 := KH.out.n6
      have hm6 := KH.out.n6
      have hs0 := KK.out.s0
      have hsn := KK.out.sn
      have hs6 := KK.out.n6
      have hpp := HP.out
      have g1 := (S.below.cell (World.block_lt_of_cell? w _ hc)).trans hc
      have htk : (r.fin.take (k + 1)).map (thenFst (s.start + (pn : Int))) = (r.fin.take k).map (thenFst (s.start + (pn : Int))) ++ [(thenFst (s.start + (pn : Int))) r.fin[k]] := by rw [List.take_succ_eq_append_getElem hkl, List.map_append]; rfl
      have hll : ((r.fin.take k).map (thenFst (s.start + (pn : Int)))).length ≤ 1000000000000 := by
        have := List.length_take_le k r.fin
        have := KH.out.fl; have := KK.out.fl; have := HR.out; have := HQ.out; have := HT.out
        simp only [List.length_append, List.length_map]
        omega
      obtain ⟨e, hee⟩ : ∃ e, e = r.fin[k] := ⟨_, rfl⟩
      rw [← hee] at hbd g1 htk
      have HTK := Lib.hid htk
      have HPP := Lib.hid hpp
      clear hc hget htk hee hpp
      by_cases he : e = -1
      all_goals
        first
          | (have hv : (thenFst (s.start + (pn : Int))) e = s.start + (pn : Int) := if_pos he
             have HV := Lib.hid hv; clear hv
             have hw : IntKind.i64.wrap (s.start + (pn : Int)) = s.start + (pn : Int) := IntWalk.i64_in _ ⟨by have := HPP.out; omega, by have := HPP.out; omega⟩
             have tt : (e == -1) = true := by simp [he]
             have HE := Lib.hid he; clear he
             have SA := ((S.alloc (cs := #[.int .i64 (s.start + (pn : Int))]) (ty := 2)).int (x := s.start + (pn : Int)) ⟨by have := HPP.out; omega, by have := HPP.out; omega⟩).sel [7, 0, 2, 3, 4, 5, 6])
          | (have hv : (thenFst (s.start + (pn : Int))) e = e := if_neg he
             have HV := Lib.hid hv; clear hv
             have tt : (e == -1) = false := by simp [he]
             have HE := Lib.hid he; clear he
             have SA := ((S.alloc (cs := #[.int .i64 (e)]) (ty := 2)).int (x := e) ⟨by have := HPP.out; omega, by have := HPP.out; omega⟩).sel [7, 0, 2, 3, 4, 5, 6])
        go_wp2_with (at_builtin; refine st1_Int64S SA rfl rfl rfl rfl cell_a1 (one_mem rfl) hll ?_; intro za zn zc w9 S9; have c3 := (S9.blk 1 rfl).cell 3 rfl; have cf := (S9.blk 1 rfl).free)
        have SB := (S9.sel [1, 2, 3, 4, 5, 0]).set 3 (.slice za zn zc)
        go_roundw
        case rel => exact ⟨k + 1, _, by omega, by go_num, by rw [HTK.out, HV.out]; simpa using SB⟩
        case measure => simp [intOf]; omega

set_option maxHeartbeats 8000000 in
set_option maxRecDepth 100000 in
theorem specThenRotator_is (x : Rot × Int) (cs : List Value) (r : Rot) (ds : List Value) (s : Rot) (B : Nat) (w : World) (hB0 : B ≤ w.heap.size) (h : rotsE.rd w B cs r) (h' : rotsE.rd w B ds s) (hx : thenRotator r s = x) :
    Calls Try.prog 15 #[.agg cs.toArray, .agg ds.toArray] w (MakesC rotsE x w) := by
  have HX := Lib.hid hx
  have RA := Lib.hid h
  have RB := Lib.hid h'
  obtain ⟨v2, v3, rfl, b1, b2, h2, h3⟩ := rd_Rot h
  obtain ⟨u2, u3, rfl, d1, d2, k2, k3⟩ := rd_Rot h'
  obtain ⟨pa, pc, rfl, p1, p2, -, e2⟩ := rd_slice1 rfl h2
  obtain ⟨qa, qc, rfl, q1, q2, -, e3⟩ := rd_ints h3
  obtain ⟨ra, rc, rfl, r1, r2, -, g2⟩ := rd_slice1 rfl k2
  obtain ⟨ta, tc, rfl, t1, t2, -, g3⟩ := rd_ints k3
  obtain ⟨pn, hpn⟩ : ∃ n, n = r.next.length := ⟨_, rfl⟩
  obtain ⟨qn, hqn⟩ : ∃ n, n = r.fin.length := ⟨_, rfl⟩
  obtain ⟨rn, hrn⟩ : ∃ n, n = s.next.length := ⟨_, rfl⟩
  obtain ⟨tn, htn⟩ : ∃ n, n = s.fin.length := ⟨_, rfl⟩
  rw [← hqn, ← hpn] at RA ⊢
  rw [← htn, ← hrn] at RB ⊢
  rw [← hpn] at p1 e2 h2
  rw [← hqn] at q1 e3
  rw [← hrn] at r1 g2 k2
  rw [← htn] at t1 g3
  have HP := Lib.hid hpn
  have HQ := Lib.hid hqn
  have HR := Lib.hid hrn
  have HT := Lib.hid htn
  have R2 := Lib.hid h2
  have K2 := Lib.hid k2
  have E3 := Lib.hid e3
  have G2 := Lib.hid g2
  have G3 := Lib.hid g3
  clear hx h h' h2 h3 k2 k3 hpn hqn hrn htn e2 e3 g2 g3
  have S := (((Star.nil w).alloc (cs := #[.int .i64 r.letters, .int .i64 r.start, .slice pa pn pc, .slice qa qn qc]) (ty := 28)).alloc (cs := #[.int .i64 s.letters, .int .i64 s.start, .slice ra rn rc, .slice ta tn tc]) (ty := 28)).alloc (cs := #[.int .i64 0, .int .i64 0, .slice none 0 0, .slice none 0 0]) (ty := 28)
  rw [World.size_alloc, World.size_alloc] at S
  go_enter Try.func15, Try.ntmps15
  go_wp2_with fail
  generalize hW : ((w.alloc _).alloc _).alloc _ = w0 at S ⊢
  clear hW
  replace S : Star w w0 [oB (w.heap.size + 1 + 1) [.int .i64 0, .int .i64 0, .slice none 0 0, .slice none 0 0] 28, oB (w.heap.size + 1) [.int .i64 s.letters, .int .i64 s.start, .slice ra rn rc, .slice ta tn tc] 28, oB w.heap.size [.int .i64 r.letters, .int .i64 r.start, .slice pa pn pc, .slice qa qn qc] 28] := S
  refine (l06Ok_any _ _ r B _ (Nat.le_trans hB0 S.below.size) (rotsE.rd_of (S.below.mono hB0) RA.out) (fun i v hv => (S.blk 2 rfl).cell i hv)).mono ?_
  rintro e w1 ⟨rfl, b⟩
  replace S := S.step b
  clear b
  have a0 := (S.blk 2 rfl).cell 0 rfl
  have e0 := (S.blk 1 rfl).cell 0 rfl
  have a1 := (S.blk 2 rfl).cell 1 rfl
  have e1 := (S.blk 1 rfl).cell 1 rfl
  have a2 := (S.blk 2 rfl).cell 2 rfl
  have e2 := (S.blk 1 rfl).cell 2 rfl
  have a3 := (S.blk 2 rfl).cell 3 rfl
  have e3 := (S.blk 1 rfl).cell 3 rfl
  cases h1 : validRot r
  case false =>
    have R0 := S.blk 0 rfl
    have c0 := R0.cell 0 rfl
    have c1 := R0.cell 1 rfl
    have c2 := R0.cell 2 rfl
    have c3 := R0.cell 3 rfl
    have f0 := R0.free
    go_wp2
    generalize hW : (((w1.setCell _ _).setCell _ _).setCell _ _).setCell _ _ = w3
    replace S := S.set4 rfl hW
    have A3 := S.blk 0 rfl
    have q0 := A3.cell 0 rfl
    have q1 := A3.cell 1 rfl
    have q2 := A3.cell 2 rfl
    have q3 := A3.cell 3 rfl
    obtain rfl : x = (default, 1) := by rw [← HX.out]; unfold thenRotator; rw [h1]; rfl
    exact bodyPost_ret (v := .tuple #[.agg #[.int .i64 0, .int .i64 0, .slice none 0 0, .slice none 0 0], .int .i64 1]) (by simp [results, Try.results15, go_sem, q0, q1, q2, q3]) rfl (S.flat (ow_Rot_zero _)).done
  go_wp2_with fail
  refine (l06Ok_any _ _ s B _ (Nat.le_trans hB0 S.below.size) (rotsE.rd_of (S.below.mono hB0) RB.out) (fun i v hv => (S.blk 1 rfl).cell i hv)).mono ?_
  rintro e w2 ⟨rfl, b⟩
  replace S := S.step b
  clear b
  clear a0 a1 a2 a3 e0 e1 e2 e3
  have a0 := (S.blk 2 rfl).cell 0 rfl
  have e0 := (S.blk 1 rfl).cell 0 rfl
  have a1 := (S.blk 2 rfl).cell 1 rfl
  have e1 := (S.blk 1 rfl).cell 1 rfl
  have a2 := (S.blk 2 rfl).cell 2 rfl
  have e2 := (S.blk 1 rfl).cell 2 rfl
  have a3 := (S.blk 2 rfl).cell 3 rfl
  have e3 := (S.blk 1 rfl).cell 3 rfl
  cases h2 : validRot s
  case false =>
    have R0 := S.blk 0 rfl
    have c0 := R0.cell 0 rfl
    have c1 := R0.cell 1 rfl
    have c2 := R0.cell 2 rfl
    have c3 := R0.cell 3 rfl
    have f0 := R0.free
    go_wp2
    generalize hW : (((w2.setCell _ _).setCell _ _).setCell _ _).setCell _ _ = w3
    replace S := S.set4 rfl hW
    have A3 := S.blk 0 rfl
    have q0 := A3.cell 0 rfl
    have q1 := A3.cell 1 rfl
    have q2 := A3.cell 2 rfl
    have q3 := A3.cell 3 rfl
    obtain rfl : x = (default, 1) := by rw [← HX.out]; unfold thenRotator; rw [h1, h2]; rfl
    exact bodyPost_ret (v := .tuple #[.agg #[.int .i64 0, .int .i64 0, .slice none 0 0, .slice none 0 0], .int .i64 1]) (by simp [results, Try.results15, go_sem, q0, q1, q2, q3]) rfl (S.flat (ow_Rot_zero _)).done
  have K := rotOk h1
  have K' := rotOk h2
  have H12 : Hid (validRot r = true ∧ validRot s = true) := Lib.hid ⟨h1, h2⟩
  clear h1 h2
  by_cases hl : r.letters = s.letters
  case neg =>
    have tl : (r.letters != s.letters) = true := by simp [hl]
    clear K K'
    have HL := Lib.hid hl; clear hl
    have R0 := S.blk 0 rfl
    have c0 := R0.cell 0 rfl
    have c1 := R0.cell 1 rfl
    have c2 := R0.cell 2 rfl
    have c3 := R0.cell 3 rfl
    have f0 := R0.free
    go_wp2
    generalize hW : (((w2.setCell _ _).setCell _ _).setCell _ _).setCell _ _ = w3
    replace S := S.set4 rfl hW
    have A3 := S.blk 0 rfl
    have q0 := A3.cell 0 rfl
    have q1 := A3.cell 1 rfl
    have q2 := A3.cell 2 rfl
    have q3 := A3.cell 3 rfl
    obtain rfl : x = (default, 2) := by rw [← HX.out]; unfold thenRotator; rw [H12.out.1, H12.out.2, if_pos (show (true && true) = true from rfl), if_neg HL.out]
    exact bodyPost_ret (v := .tuple #[.agg #[.int .i64 0, .int .i64 0, .slice none 0 0, .slice none 0 0], .int .i64 2]) (by simp [results, Try.results15, go_sem, q0, q1, q2, q3]) rfl (S.flat (ow_Rot_zero _)).done
  have tl : (r.letters != s.letters) = false := by simp [hl]
  have HL := Lib.hid hl; clear hl
  have w6 : IntKind.i64.wrap ((pn : Int) + (rn : Int)) = (pn : Int) + (rn : Int) := by have := K.n6; have := K'.n6; have := HP.out; have := HR.out; exact IntWalk.i64_in _ ⟨by omega, by omega⟩
  by_cases h6 : pn + rn ≤ 6
  case neg =>
    have h6' : (6 : Int) < (pn : Int) + (rn : Int) := by omega
    clear K K'
    have R0 := S.blk 0 rfl
    have c0 := R0.cell 0 rfl
    have c1 := R0.cell 1 rfl
    have c2 := R0.cell 2 rfl
    have c3 := R0.cell 3 rfl
    have f0 := R0.free
    go_wp2
    generalize hW : (((w2.setCell _ _).setCell _ _).setCell _ _).setCell _ _ = w3
    replace S := S.set4 rfl hW
    have A3 := S.blk 0 rfl
    have q0 := A3.cell 0 rfl
    have q1 := A3.cell 1 rfl
    have q2 := A3.cell 2 rfl
    have q3 := A3.cell 3 rfl
    obtain rfl : x = (default, 3) := by rw [← HX.out]; unfold thenRotator; rw [H12.out.1, H12.out.2, if_pos (show (true && true) = true from rfl), if_pos HL.out, if_neg (by rw [← HP.out, ← HR.out]; exact h6)]
    exact bodyPost_ret (v := .tuple #[.agg #[.int .i64 0, .int .i64 0, .slice none 0 0, .slice none 0 0], .int .i64 3]) (by simp [results, Try.results15, go_sem, q0, q1, q2, q3]) rfl (S.flat (ow_Rot_zero _)).done
  have h6' : ¬ (6 : Int) < (pn : Int) + (rn : Int) := by omega
  have HX : Hid (x = (⟨r.letters, r.start, r.next ++ plusAll s.next r.next.length, r.fin.map (thenFst (s.start + r.next.length)) ++ s.fin.map (thenSnd r.next.length)⟩, 0)) := Lib.hid (by rw [← HX.out]; unfold thenRotator; rw [H12.out.1, H12.out.2, if_pos (show (true && true) = true from rfl), if_pos HL.out, if_pos (by rw [← HP.out, ← HR.out]; exact h6)])
  have KH := Lib.hid K; have KK := Lib.hid K'
  clear K K' H12
  have HS := Lib.hid S
  clear S
  go_upto_region 8 with fail
  clear a3 e0 e1 e3 tl h6' w6
  go_cut [7] (fun s4 wx => ∃ g : Nat, ∃ ca cn cc, s4 = .pointer (some ⟨g, 0, none⟩) ∧ Star w wx [oB g [.int .i64 r.letters, .int .i64 r.start, .slice ca cn cc, .slice none 0 0] 28, oE intssE [.slice ca cn cc] (plusAll r.next 0 ++ plusAll s.next (pn : Int)), oB (w.heap.size + 1 + 1) [.int .i64 0, .int .i64 0, .slice none 0 0, .slice none 0 0] 28, oB (w.heap.size + 1) [.int .i64 s.letters, .int .i64 s.start, .slice ra rn rc, .slice ta tn tc] 28, oB w.heap.size [.int .i64 r.letters, .int .i64 r.start, .slice pa pn pc, .slice qa qn qc] 28])
  case first =>
    have hlen : (plusAll r.next 0).length + (plusAll s.next (pn : Int)).length ≤ 1000000000000 := by
      unfold plusAll; rw [List.length_map, List.length_map]; have := KH.out.n6; have := KK.out.n6; omega
    have k0 := (⟨a0, a1, a2, e2⟩ : _ ∧ _ ∧ _ ∧ _)
    have k0a := fun o => (⟨cell_al a0 o, cell_al a1 o, cell_al a2 o, cell_al e2 o⟩ : _ ∧ _ ∧ _ ∧ _)
    go_region_held3 (fun w' => w'.cell? ⟨w.heap.size, 0, none⟩ = some (.int .i64 r.letters) ∧ w'.cell? ⟨w.heap.size, 1, none⟩ = some (.int .i64 r.start) ∧ w'.cell? ⟨w.heap.size, 2, none⟩ = some (.slice pa pn pc) ∧ w'.cell? ⟨w.heap.size + 1, 2, none⟩ = some (.slice ra rn rc))
      (first
        | (with_reducible exact k0)
        | (with_reducible exact k0a _)
        | ((with_reducible exact kr0))
        | ((with_reducible exact kr0a _))
        | ((with_reducible exact krz))
        | ((with_reducible exact krza _))
        | ((with_reducible exact kr0s))
        | ((with_reducible exact kr0sa _))
        | ((with_reducible exact kr0zs))
        | ((with_reducible exact kr0zsa _))
        | ((with_reducible exact krzs))
        | ((with_reducible exact krzsa _))
        | ((with_reducible exact kN))
        | ((with_reducible exact kNa _))
        | ((with_reducible exact kZ))
        | ((with_reducible exact kZa _))
        | ((with_reducible exact ks0))
        | ((with_reducible exact ks0a _))
        | ((with_reducible exact ksz))
        | ((with_reducible exact ksza _))
        | ((with_reducible exact ks0r))
        | ((with_reducible exact ks0ra _))
        | ((with_reducible exact ks0zr))
        | ((with_reducible exact ks0zra _))
        | ((with_reducible exact kszr))
        | ((with_reducible exact kszra _))
        | (exact ⟨(((SZ.sel [1, 0, 2, 3, 4]).set4 rfl rfl).blk 4 rfl).cell 0 rfl, (((SZ.sel [1, 0, 2, 3, 4]).set4 rfl rfl).blk 4 rfl).cell 1 rfl, (((SZ.sel [1, 0, 2, 3, 4]).set4 rfl rfl).blk 4 rfl).cell 2 rfl, (((SZ.sel [1, 0, 2, 3, 4]).set4 rfl rfl).blk 3 rfl).cell 2 rfl⟩)
        | go_keep)
      (first
        | (go_at_call 28
           with_reducible show Calls _ _ _ (World.drew w2) _
           refine (l06Rows_any _ r.next 0 B _ (by exact Nat.le_trans hB0 (HS.out.drew).below.size) (by exact intssE.rd_of ((HS.out.drew).below.mono hB0) R2.out) (by have := KH.out.n6; omega) (fun x hx => ⟨by have := (KH.out.row x hx).1; have := KH.out.l3; omega, fun y hy => by have := (KH.out.row x hx).2 y hy; have := KH.out.n6; omega⟩) ⟨by omega, by omega⟩).mono ?_
           rintro e wr0 ⟨vr0, fr0, rfl, or0, nr0, lor0, br0⟩
           have Sr0 := (HS.out.drew).made or0 nr0 lor0 br0
           have kr0 : ((wr0).cell? ⟨w.heap.size, 0, none⟩ = some (.int .i64 r.letters) ∧ (wr0).cell? ⟨w.heap.size, 1, none⟩ = some (.int .i64 r.start) ∧ (wr0).cell? ⟨w.heap.size, 2, none⟩ = some (.slice pa pn pc) ∧ (wr0).cell? ⟨w.heap.size + 1, 2, none⟩ = some (.slice ra rn rc)) := ⟨((Sr0).blk 3 rfl).cell 0 rfl, ((Sr0).blk 3 rfl).cell 1 rfl, ((Sr0).blk 3 rfl).cell 2 rfl, ((Sr0).blk 2 rfl).cell 2 rfl⟩
           have kr0a := fun o => (⟨cell_al kr0.1 o, cell_al kr0.2.1 o, cell_al kr0.2.2.1 o, cell_al kr0.2.2.2 o⟩ : (((wr0).alloc o).cell? ⟨w.heap.size, 0, none⟩ = some (.int .i64 r.letters) ∧ ((wr0).alloc o).cell? ⟨w.heap.size, 1, none⟩ = some (.int .i64 r.start) ∧ ((wr0).alloc o).cell? ⟨w.heap.size, 2, none⟩ = some (.slice pa pn pc) ∧ ((wr0).alloc o).cell? ⟨w.heap.size + 1, 2, none⟩ = some (.slice ra rn rc)))
           obtain ⟨cr0a, cr0n, cr0c, rfl⟩ := ow_slice or0)
        | (go_at_call 28
           with_reducible show Calls _ _ _ (World.drew (World.alloc w2 _)) _
           refine (l06Rows_any _ r.next 0 B _ (by exact Nat.le_trans hB0 ((HS.out.alloc (cs := #[.int .i64 0, .int .i64 0, .slice none 0 0, .slice none 0 0]) (ty := 28)).drew).below.size) (by exact intssE.rd_of (((HS.out.alloc (cs := #[.int .i64 0, .int .i64 0, .slice none 0 0, .slice none 0 0]) (ty := 28)).drew).below.mono hB0) R2.out) (by have := KH.out.n6; omega) (fun x hx => ⟨by have := (KH.out.row x hx).1; have := KH.out.l3; omega, fun y hy => by have := (KH.out.row x hx).2 y hy; have := KH.out.n6; omega⟩) ⟨by omega, by omega⟩).mono ?_
           rintro e wrz ⟨vrz, frz, rfl, orz, nrz, lorz, brz⟩
           have Srz := ((HS.out.alloc (cs := #[.int .i64 0, .int .i64 0, .slice none 0 0, .slice none 0 0]) (ty := 28)).drew).made orz nrz lorz brz
           have krz : ((wrz).cell? ⟨w.heap.size, 0, none⟩ = some (.int .i64 r.letters) ∧ (wrz).cell? ⟨w.heap.size, 1, none⟩ = some (.int .i64 r.start) ∧ (wrz).cell? ⟨w.heap.size, 2, none⟩ = some (.slice pa pn pc) ∧ (wrz).cell? ⟨w.heap.size + 1, 2, none⟩ = some (.slice ra rn rc)) := ⟨((Srz).blk 4 rfl).cell 0 rfl, ((Srz).blk 4 rfl).cell 1 rfl, ((Srz).blk 4 rfl).cell 2 rfl, ((Srz).blk 3 rfl).cell 2 rfl⟩
           have krza := fun o => (⟨cell_al krz.1 o, cell_al krz.2.1 o, cell_al krz.2.2.1 o, cell_al krz.2.2.2 o⟩ : (((wrz).alloc o).cell? ⟨w.heap.size, 0, none⟩ = some (.int .i64 r.letters) ∧ ((wrz).alloc o).cell? ⟨w.heap.size, 1, none⟩ = some (.int .i64 r.start) ∧ ((wrz).alloc o).cell? ⟨w.heap.size, 2, none⟩ = some (.slice pa pn pc) ∧ ((wrz).alloc o).cell? ⟨w.heap.size + 1, 2, none⟩ = some (.slice ra rn rc)))
           obtain ⟨crza, crzn, crzc, rfl⟩ := ow_slice orz)
        | (go_at_call 28
           with_reducible show Calls _ _ _ wr0 _
           refine (l06Rows_any _ s.next (pn : Int) B _ (by exact Nat.le_trans hB0 (Sr0).below.size) (by exact intssE.rd_of ((Sr0).below.mono hB0) K2.out) (by have := KK.out.n6; omega) (fun x hx => ⟨by have := (KK.out.row x hx).1; have := KK.out.l3; omega, fun y hy => by have := (KK.out.row x hx).2 y hy; have := KK.out.n6; omega⟩) ⟨by omega, by have := KH.out.n6; have := HP.out; omega⟩).mono ?_
           rintro e wr0s ⟨vr0s, fr0s, rfl, or0s, nr0s, lor0s, br0s⟩
           have Sr0s := (Sr0).made or0s nr0s lor0s br0s
           have kr0s : ((wr0s).cell? ⟨w.heap.size, 0, none⟩ = some (.int .i64 r.letters) ∧ (wr0s).cell? ⟨w.heap.size, 1, none⟩ = some (.int .i64 r.start) ∧ (wr0s).cell? ⟨w.heap.size, 2, none⟩ = some (.slice pa pn pc) ∧ (wr0s).cell? ⟨w.heap.size + 1, 2, none⟩ = some (.slice ra rn rc)) := ⟨((Sr0s).blk 4 rfl).cell 0 rfl, ((Sr0s).blk 4 rfl).cell 1 rfl, ((Sr0s).blk 4 rfl).cell 2 rfl, ((Sr0s).blk 3 rfl).cell 2 rfl⟩
           have kr0sa := fun o => (⟨cell_al kr0s.1 o, cell_al kr0s.2.1 o, cell_al kr0s.2.2.1 o, cell_al kr0s.2.2.2 o⟩ : (((wr0s).alloc o).cell? ⟨w.heap.size, 0, none⟩ = some (.int .i64 r.letters) ∧ ((wr0s).alloc o).cell? ⟨w.heap.size, 1, none⟩ = some (.int .i64 r.start) ∧ ((wr0s).alloc o).cell? ⟨w.heap.size, 2, none⟩ = some (.slice pa pn pc) ∧ ((wr0s).alloc o).cell? ⟨w.heap.size + 1, 2, none⟩ = some (.slice ra rn rc)))
           obtain ⟨cr0sa, cr0sn, cr0sc, rfl⟩ := ow_slice or0s)
        | (go_at_call 28
           with_reducible show Calls _ _ _ (World.alloc wr0 _) _
           refine (l06Rows_any _ s.next (pn : Int) B _ (by exact Nat.le_trans hB0 ((Sr0.alloc (cs := #[.int .i64 0, .int .i64 0, .slice none 0 0, .slice none 0 0]) (ty := 28))).below.size) (by exact intssE.rd_of (((Sr0.alloc (cs := #[.int .i64 0, .int .i64 0, .slice none 0 0, .slice none 0 0]) (ty := 28))).below.mono hB0) K2.out) (by have := KK.out.n6; omega) (fun x hx => ⟨by have := (KK.out.row x hx).1; have := KK.out.l3; omega, fun y hy => by have := (KK.out.row x hx).2 y hy; have := KK.out.n6; omega⟩) ⟨by omega, by have := KH.out.n6; have := HP.out; omega⟩).mono ?_
           rintro e wr0zs ⟨vr0zs, fr0zs, rfl, or0zs, nr0zs, lor0zs, br0zs⟩
           have Sr0zs := ((Sr0.alloc (cs := #[.int .i64 0, .int .i64 0, .slice none 0 0, .slice none 0 0]) (ty := 28))).made or0zs nr0zs lor0zs br0zs
           have kr0zs : ((wr0zs).cell? ⟨w.heap.size, 0, none⟩ = some (.int .i64 r.letters) ∧ (wr0zs).cell? ⟨w.heap.size, 1, none⟩ = some (.int .i64 r.start) ∧ (wr0zs).cell? ⟨w.heap.size, 2, none⟩ = some (.slice pa pn pc) ∧ (wr0zs).cell? ⟨w.heap.size + 1, 2, none⟩ = some (.slice ra rn rc)) := ⟨((Sr0zs).blk 5 rfl).cell 0 rfl, ((Sr0zs).blk 5 rfl).cell 1 rfl, ((Sr0zs).blk 5 rfl).cell 2 rfl, ((Sr0zs).blk 4 rfl).cell 2 rfl⟩
           have kr0zsa := fun o => (⟨cell_al kr0zs.1 o, cell_al kr0zs.2.1 o, cell_al kr0zs.2.2.1 o, cell_al kr0zs.2.2.2 o⟩ : (((wr0zs).alloc o).cell? ⟨w.heap.size, 0, none⟩ = some (.int .i64 r.letters) ∧ ((wr0zs).alloc o).cell? ⟨w.heap.size, 1, none⟩ = some (.int .i64 r.start) ∧ ((wr0zs).alloc o).cell? ⟨w.heap.size, 2, none⟩ = some (.slice pa pn pc) ∧ ((wr0zs).alloc o).cell? ⟨w.heap.size + 1, 2, none⟩ = some (.slice ra rn rc)))
           obtain ⟨cr0zsa, cr0zsn, cr0zsc, rfl⟩ := ow_slice or0zs)
        | (go_at_call 28
           with_reducible show Calls _ _ _ wrz _
           refine (l06Rows_any _ s.next (pn : Int) B _ (by exact Nat.le_trans hB0 (Srz).below.size) (by exact intssE.rd_of ((Srz).below.mono hB0) K2.out) (by have := KK.out.n6; omega) (fun x hx => ⟨by have := (KK.out.row x hx).1; have := KK.out.l3; omega, fun y hy => by have := (KK.out.row x hx).2 y hy; have := KK.out.n6; omega⟩) ⟨by omega, by have := KH.out.n6; have := HP.out; omega⟩).mono ?_
           rintro e wrzs ⟨vrzs, frzs, rfl, orzs, nrzs, lorzs, brzs⟩
           have Srzs := (Srz).made orzs nrzs lorzs brzs
           have krzs : ((wrzs).cell? ⟨w.heap.size, 0, none⟩ = some (.int .i64 r.letters) ∧ (wrzs).cell? ⟨w.heap.size, 1, none⟩ = some (.int .i64 r.start) ∧ (wrzs).cell? ⟨w.heap.size, 2, none⟩ = some (.slice pa pn pc) ∧ (wrzs).cell? ⟨w.heap.size + 1, 2, none⟩ = some (.slice ra rn rc)) := ⟨((Srzs).blk 5 rfl).cell 0 rfl, ((Srzs).blk 5 rfl).cell 1 rfl, ((Srzs).blk 5 rfl).cell 2 rfl, ((Srzs).blk 4 rfl).cell 2 rfl⟩
           have krzsa := fun o => (⟨cell_al krzs.1 o, cell_al krzs.2.1 o, cell_al krzs.2.2.1 o, cell_al krzs.2.2.2 o⟩ : (((wrzs).alloc o).cell? ⟨w.heap.size, 0, none⟩ = some (.int .i64 r.letters) ∧ ((wrzs).alloc o).cell? ⟨w.heap.size, 1, none⟩ = some (.int .i64 r.start) ∧ ((wrzs).alloc o).cell? ⟨w.heap.size, 2, none⟩ = some (.slice pa pn pc) ∧ ((wrzs).alloc o).cell? ⟨w.heap.size + 1, 2, none⟩ = some (.slice ra rn rc)))
           obtain ⟨crzsa, crzsn, crzsc, rfl⟩ := ow_slice orzs)
        | (with_reducible show (if _ then Oper.wp _ _ _ wr0s _ _ else _)
           refine sstJ_Int64SS (Sr0s.sel [1, 0, 2, 3, 4]) rfl rfl rfl rfl hlen ?_
           intro za zn zc w9 SN
           have kN : ((w9).cell? ⟨w.heap.size, 0, none⟩ = some (.int .i64 r.letters) ∧ (w9).cell? ⟨w.heap.size, 1, none⟩ = some (.int .i64 r.start) ∧ (w9).cell? ⟨w.heap.size, 2, none⟩ = some (.slice pa pn pc) ∧ (w9).cell? ⟨w.heap.size + 1, 2, none⟩ = some (.slice ra rn rc)) := ⟨((SN).blk 3 rfl).cell 0 rfl, ((SN).blk 3 rfl).cell 1 rfl, ((SN).blk 3 rfl).cell 2 rfl, ((SN).blk 2 rfl).cell 2 rfl⟩
           have kNa := fun o => (⟨cell_al kN.1 o, cell_al kN.2.1 o, cell_al kN.2.2.1 o, cell_al kN.2.2.2 o⟩ : (((w9).alloc o).cell? ⟨w.heap.size, 0, none⟩ = some (.int .i64 r.letters) ∧ ((w9).alloc o).cell? ⟨w.heap.size, 1, none⟩ = some (.int .i64 r.start) ∧ ((w9).alloc o).cell? ⟨w.heap.size, 2, none⟩ = some (.slice pa pn pc) ∧ ((w9).alloc o).cell? ⟨w.heap.size + 1, 2, none⟩ = some (.slice ra rn rc))))
        | (with_reducible show (if _ then Oper.wp _ _ _ (World.alloc wr0s _) _ _ else _)
           refine sstJ_Int64SS ((Sr0s.alloc (cs := #[.int .i64 0, .int .i64 0, .slice none 0 0, .slice none 0 0]) (ty := 28)).sel [2, 1, 0, 3, 4, 5]) rfl rfl rfl rfl hlen ?_
           intro za zn zc w9 SZ
           have kZ : ((w9).cell? ⟨w.heap.size, 0, none⟩ = some (.int .i64 r.letters) ∧ (w9).cell? ⟨w.heap.size, 1, none⟩ = some (.int .i64 r.start) ∧ (w9).cell? ⟨w.heap.size, 2, none⟩ = some (.slice pa pn pc) ∧ (w9).cell? ⟨w.heap.size + 1, 2, none⟩ = some (.slice ra rn rc)) := ⟨((SZ).blk 4 rfl).cell 0 rfl, ((SZ).blk 4 rfl).cell 1 rfl, ((SZ).blk 4 rfl).cell 2 rfl, ((SZ).blk 3 rfl).cell 2 rfl⟩
           have kZa := fun o => (⟨cell_al kZ.1 o, cell_al kZ.2.1 o, cell_al kZ.2.2.1 o, cell_al kZ.2.2.2 o⟩ : (((w9).alloc o).cell? ⟨w.heap.size, 0, none⟩ = some (.int .i64 r.letters) ∧ ((w9).alloc o).cell? ⟨w.heap.size, 1, none⟩ = some (.int .i64 r.start) ∧ ((w9).alloc o).cell? ⟨w.heap.size, 2, none⟩ = some (.slice pa pn pc) ∧ ((w9).alloc o).cell? ⟨w.heap.size + 1, 2, none⟩ = some (.slice ra rn rc)))
           have z0 := (SZ.blk 1 rfl).cell 0 rfl
           have z1 := (SZ.blk 1 rfl).cell 1 rfl
           have z2 := (SZ.blk 1 rfl).cell 2 rfl
           have z3 := (SZ.blk 1 rfl).cell 3 rfl
           have zf := (SZ.blk 1 rfl).free)
        | (with_reducible show (if _ then Oper.wp _ _ _ wr0zs _ _ else _)
           refine sstJ_Int64SS (Sr0zs.sel [2, 0, 1, 3, 4, 5]) rfl rfl rfl rfl hlen ?_
           intro za zn zc w9 SZ
           have kZ : ((w9).cell? ⟨w.heap.size, 0, none⟩ = some (.int .i64 r.letters) ∧ (w9).cell? ⟨w.heap.size, 1, none⟩ = some (.int .i64 r.start) ∧ (w9).cell? ⟨w.heap.size, 2, none⟩ = some (.slice pa pn pc) ∧ (w9).cell? ⟨w.heap.size + 1, 2, none⟩ = some (.slice ra rn rc)) := ⟨((SZ).blk 4 rfl).cell 0 rfl, ((SZ).blk 4 rfl).cell 1 rfl, ((SZ).blk 4 rfl).cell 2 rfl, ((SZ).blk 3 rfl).cell 2 rfl⟩
           have kZa := fun o => (⟨cell_al kZ.1 o, cell_al kZ.2.1 o, cell_al kZ.2.2.1 o, cell_al kZ.2.2.2 o⟩ : (((w9).alloc o).cell? ⟨w.heap.size, 0, none⟩ = some (.int .i64 r.letters) ∧ ((w9).alloc o).cell? ⟨w.heap.size, 1, none⟩ = some (.int .i64 r.start) ∧ ((w9).alloc o).cell? ⟨w.heap.size, 2, none⟩ = some (.slice pa pn pc) ∧ ((w9).alloc o).cell? ⟨w.heap.size + 1, 2, none⟩ = some (.slice ra rn rc)))
           have z0 := (SZ.blk 1 rfl).cell 0 rfl
           have z1 := (SZ.blk 1 rfl).cell 1 rfl
           have z2 := (SZ.blk 1 rfl).cell 2 rfl
           have z3 := (SZ.blk 1 rfl).cell 3 rfl
           have zf := (SZ.blk 1 rfl).free)
        | (with_reducible show (if _ then Oper.wp _ _ _ wrzs _ _ else _)
           refine sstJ_Int64SS (Srzs.sel [1, 0, 2, 3, 4, 5]) rfl rfl rfl rfl hlen ?_
           intro za zn zc w9 SZ
           have kZ : ((w9).cell? ⟨w.heap.size, 0, none⟩ = some (.int .i64 r.letters) ∧ (w9).cell? ⟨w.heap.size, 1, none⟩ = some (.int .i64 r.start) ∧ (w9).cell? ⟨w.heap.size, 2, none⟩ = some (.slice pa pn pc) ∧ (w9).cell? ⟨w.heap.size + 1, 2, none⟩ = some (.slice ra rn rc)) := ⟨((SZ).blk 4 rfl).cell 0 rfl, ((SZ).blk 4 rfl).cell 1 rfl, ((SZ).blk 4 rfl).cell 2 rfl, ((SZ).blk 3 rfl).cell 2 rfl⟩
           have kZa := fun o => (⟨cell_al kZ.1 o, cell_al kZ.2.1 o, cell_al kZ.2.2.1 o, cell_al kZ.2.2.2 o⟩ : (((w9).alloc o).cell? ⟨w.heap.size, 0, none⟩ = some (.int .i64 r.letters) ∧ ((w9).alloc o).cell? ⟨w.heap.size, 1, none⟩ = some (.int .i64 r.start) ∧ ((w9).alloc o).cell? ⟨w.heap.size, 2, none⟩ = some (.slice pa pn pc) ∧ ((w9).alloc o).cell? ⟨w.heap.size + 1, 2, none⟩ = some (.slice ra rn rc)))
           have z0 := (SZ.blk 1 rfl).cell 0 rfl
           have z1 := (SZ.blk 1 rfl).cell 1 rfl
           have z2 := (SZ.blk 1 rfl).cell 2 rfl
           have z3 := (SZ.blk 1 rfl).cell 3 rfl
           have zf := (SZ.blk 1 rfl).free)
        | (go_at_call 28
           with_reducible show Calls _ _ _ (World.drew w2) _
           refine (l06Rows_any _ s.next (pn : Int) B _ (by exact Nat.le_trans hB0 (HS.out.drew).below.size) (by exact intssE.rd_of ((HS.out.drew).below.mono hB0) K2.out) (by have := KK.out.n6; omega) (fun x hx => ⟨by have := (KK.out.row x hx).1; have := KK.out.l3; omega, fun y hy => by have := (KK.out.row x hx).2 y hy; have := KK.out.n6; omega⟩) ⟨by omega, by have := KH.out.n6; have := HP.out; omega⟩).mono ?_
           rintro e ws0 ⟨vs0, fs0, rfl, os0, ns0, los0, bs0⟩
           have Ss0 := (HS.out.drew).made os0 ns0 los0 bs0
           have ks0 : ((ws0).cell? ⟨w.heap.size, 0, none⟩ = some (.int .i64 r.letters) ∧ (ws0).cell? ⟨w.heap.size, 1, none⟩ = some (.int .i64 r.start) ∧ (ws0).cell? ⟨w.heap.size, 2, none⟩ = some (.slice pa pn pc) ∧ (ws0).cell? ⟨w.heap.size + 1, 2, none⟩ = some (.slice ra rn rc)) := ⟨((Ss0).blk 3 rfl).cell 0 rfl, ((Ss0).blk 3 rfl).cell 1 rfl, ((Ss0).blk 3 rfl).cell 2 rfl, ((Ss0).blk 2 rfl).cell 2 rfl⟩
           have ks0a := fun o => (⟨cell_al ks0.1 o, cell_al ks0.2.1 o, cell_al ks0.2.2.1 o, cell_al ks0.2.2.2 o⟩ : (((ws0).alloc o).cell? ⟨w.heap.size, 0, none⟩ = some (.int .i64 r.letters) ∧ ((ws0).alloc o).cell? ⟨w.heap.size, 1, none⟩ = some (.int .i64 r.start) ∧ ((ws0).alloc o).cell? ⟨w.heap.size, 2, none⟩ = some (.slice pa pn pc) ∧ ((ws0).alloc o).cell? ⟨w.heap.size + 1, 2, none⟩ = some (.slice ra rn rc)))
           obtain ⟨cs0a, cs0n, cs0c, rfl⟩ := ow_slice os0)
        | (go_at_call 28
           with_reducible show Calls _ _ _ (World.drew (World.alloc w2 _)) _
           refine (l06Rows_any _ s.next (pn : Int) B _ (by exact Nat.le_trans hB0 ((HS.out.alloc (cs := #[.int .i64 0, .int .i64 0, .slice none 0 0, .slice none 0 0]) (ty := 28)).drew).below.size) (by exact intssE.rd_of (((HS.out.alloc (cs := #[.int .i64 0, .int .i64 0, .slice none 0 0, .slice none 0 0]) (ty := 28)).drew).below.mono hB0) K2.out) (by have := KK.out.n6; omega) (fun x hx => ⟨by have := (KK.out.row x hx).1; have := KK.out.l3; omega, fun y hy => by have := (KK.out.row x hx).2 y hy; have := KK.out.n6; omega⟩) ⟨by omega, by have := KH.out.n6; have := HP.out; omega⟩).mono ?_
           rintro e wsz ⟨vsz, fsz, rfl, osz, nsz, losz, bsz⟩
           have Ssz := ((HS.out.alloc (cs := #[.int .i64 0, .int .i64 0, .slice none 0 0, .slice none 0 0]) (ty := 28)).drew).made osz nsz losz bsz
           have ksz : ((wsz).cell? ⟨w.heap.size, 0, none⟩ = some (.int .i64 r.letters) ∧ (wsz).cell? ⟨w.heap.size, 1, none⟩ = some (.int .i64 r.start) ∧ (wsz).cell? ⟨w.heap.size, 2, none⟩ = some (.slice pa pn pc) ∧ (wsz).cell? ⟨w.heap.size + 1, 2, none⟩ = some (.slice ra rn rc)) := ⟨((Ssz).blk 4 rfl).cell 0 rfl, ((Ssz).blk 4 rfl).cell 1 rfl, ((Ssz).blk 4 rfl).cell 2 rfl, ((Ssz).blk 3 rfl).cell 2 rfl⟩
           have ksza := fun o => (⟨cell_al ksz.1 o, cell_al ksz.2.1 o, cell_al ksz.2.2.1 o, cell_al ksz.2.2.2 o⟩ : (((wsz).alloc o).cell? ⟨w.heap.size, 0, none⟩ = some (.int .i64 r.letters) ∧ ((wsz).alloc o).cell? ⟨w.heap.size, 1, none⟩ = some (.int .i64 r.start) ∧ ((wsz).alloc o).cell? ⟨w.heap.size, 2, none⟩ = some (.slice pa pn pc) ∧ ((wsz).alloc o).cell? ⟨w.heap.size + 1, 2, none⟩ = some (.slice ra rn rc)))
           obtain ⟨csza, cszn, cszc, rfl⟩ := ow_slice osz)
        | (go_at_call 28
           with_reducible show Calls _ _ _ ws0 _
           refine (l06Rows_any _ r.next 0 B _ (by exact Nat.le_trans hB0 (Ss0).below.size) (by exact intssE.rd_of ((Ss0).below.mono hB0) R2.out) (by have := KH.out.n6; omega) (fun x hx => ⟨by have := (KH.out.row x hx).1; have := KH.out.l3; omega, fun y hy => by have := (KH.out.row x hx).2 y hy; have := KH.out.n6; omega⟩) ⟨by omega, by omega⟩).mono ?_
           rintro e ws0r ⟨vs0r, fs0r, rfl, os0r, ns0r, los0r, bs0r⟩
           have Ss0r := (Ss0).made os0r ns0r los0r bs0r
           have ks0r : ((ws0r).cell? ⟨w.heap.size, 0, none⟩ = some (.int .i64 r.letters) ∧ (ws0r).cell? ⟨w.heap.size, 1, none⟩ = some (.int .i64 r.start) ∧ (ws0r).cell? ⟨w.heap.size, 2, none⟩ = some (.slice pa pn pc) ∧ (ws0r).cell? ⟨w.heap.size + 1, 2, none⟩ = some (.slice ra rn rc)) := ⟨((Ss0r).blk 4 rfl).cell 0 rfl, ((Ss0r).blk 4 rfl).cell 1 rfl, ((Ss0r).blk 4 rfl).cell 2 rfl, ((Ss0r).blk 3 rfl).cell 2 rfl⟩
           have ks0ra := fun o => (⟨cell_al ks0r.1 o, cell_al ks0r.2.1 o, cell_al ks0r.2.2.1 o, cell_al ks0r.2.2.2 o⟩ : (((ws0r).alloc o).cell? ⟨w.heap.size, 0, none⟩ = some (.int .i64 r.letters) ∧ ((ws0r).alloc o).cell? ⟨w.heap.size, 1, none⟩ = some (.int .i64 r.start) ∧ ((ws0r).alloc o).cell? ⟨w.heap.size, 2, none⟩ = some (.slice pa pn pc) ∧ ((ws0r).alloc o).cell? ⟨w.heap.size + 1, 2, none⟩ = some (.slice ra rn rc)))
           obtain ⟨cs0ra, cs0rn, cs0rc, rfl⟩ := ow_slice os0r)
        | (go_at_call 28
           with_reducible show Calls _ _ _ (World.alloc ws0 _) _
           refine (l06Rows_any _ r.next 0 B _ (by exact Nat.le_trans hB0 ((Ss0.alloc (cs := #[.int .i64 0, .int .i64 0, .slice none 0 0, .slice none 0 0]) (ty := 28))).below.size) (by exact intssE.rd_of (((Ss0.alloc (cs := #[.int .i64 0, .int .i64 0, .slice none 0 0, .slice none 0 0]) (ty := 28))).below.mono hB0) R2.out) (by have := KH.out.n6; omega) (fun x hx => ⟨by have := (KH.out.row x hx).1; have := KH.out.l3; omega, fun y hy => by have := (KH.out.row x hx).2 y hy; have := KH.out.n6; omega⟩) ⟨by omega, by omega⟩).mono ?_
           rintro e ws0zr ⟨vs0zr, fs0zr, rfl, os0zr, ns0zr, los0zr, bs0zr⟩
           have Ss0zr := ((Ss0.alloc (cs := #[.int .i64 0, .int .i64 0, .slice none 0 0, .slice none 0 0]) (ty := 28))).made os0zr ns0zr los0zr bs0zr
           have ks0zr : ((ws0zr).cell? ⟨w.heap.size, 0, none⟩ = some (.int .i64 r.letters) ∧ (ws0zr).cell? ⟨w.heap.size, 1, none⟩ = some (.int .i64 r.start) ∧ (ws0zr).cell? ⟨w.heap.size, 2, none⟩ = some (.slice pa pn pc) ∧ (ws0zr).cell? ⟨w.heap.size + 1, 2, none⟩ = some (.slice ra rn rc)) := ⟨((Ss0zr).blk 5 rfl).cell 0 rfl, ((Ss0zr).blk 5 rfl).cell 1 rfl, ((Ss0zr).blk 5 rfl).cell 2 rfl, ((Ss0zr).blk 4 rfl).cell 2 rfl⟩
           have ks0zra := fun o => (⟨cell_al ks0zr.1 o, cell_al ks0zr.2.1 o, cell_al ks0zr.2.2.1 o, cell_al ks0zr.2.2.2 o⟩ : (((ws0zr).alloc o).cell? ⟨w.heap.size, 0, none⟩ = some (.int .i64 r.letters) ∧ ((ws0zr).alloc o).cell? ⟨w.heap.size, 1, none⟩ = some (.int .i64 r.start) ∧ ((ws0zr).alloc o).cell? ⟨w.heap.size, 2, none⟩ = some (.slice pa pn pc) ∧ ((ws0zr).alloc o).cell? ⟨w.heap.size + 1, 2, none⟩ = some (.slice ra rn rc)))
           obtain ⟨cs0zra, cs0zrn, cs0zrc, rfl⟩ := ow_slice os0zr)
        | (go_at_call 28
           with_reducible show Calls _ _ _ wsz _
           refine (l06Rows_any _ r.next 0 B _ (by exact Nat.le_trans hB0 (Ssz).below.size) (by exact intssE.rd_of ((Ssz).below.mono hB0) R2.out) (by have := KH.out.n6; omega) (fun x hx => ⟨by have := (KH.out.row x hx).1; have := KH.out.l3; omega, fun y hy => by have := (KH.out.row x hx).2 y hy; have := KH.out.n6; omega⟩) ⟨by omega, by omega⟩).mono ?_
           rintro e wszr ⟨vszr, fszr, rfl, oszr, nszr, loszr, bszr⟩
           have Sszr := (Ssz).made oszr nszr loszr bszr
           have kszr : ((wszr).cell? ⟨w.heap.size, 0, none⟩ = some (.int .i64 r.letters) ∧ (wszr).cell? ⟨w.heap.size, 1, none⟩ = some (.int .i64 r.start) ∧ (wszr).cell? ⟨w.heap.size, 2, none⟩ = some (.slice pa pn pc) ∧ (wszr).cell? ⟨w.heap.size + 1, 2, none⟩ = some (.slice ra rn rc)) := ⟨((Sszr).blk 5 rfl).cell 0 rfl, ((Sszr).blk 5 rfl).cell 1 rfl, ((Sszr).blk 5 rfl).cell 2 rfl, ((Sszr).blk 4 rfl).cell 2 rfl⟩
           have kszra := fun o => (⟨cell_al kszr.1 o, cell_al kszr.2.1 o, cell_al kszr.2.2.1 o, cell_al kszr.2.2.2 o⟩ : (((wszr).alloc o).cell? ⟨w.heap.size, 0, none⟩ = some (.int .i64 r.letters) ∧ ((wszr).alloc o).cell? ⟨w.heap.size, 1, none⟩ = some (.int .i64 r.start) ∧ ((wszr).alloc o).cell? ⟨w.heap.size, 2, none⟩ = some (.slice pa pn pc) ∧ ((wszr).alloc o).cell? ⟨w.heap.size + 1, 2, none⟩ = some (.slice ra rn rc)))
           obtain ⟨cszra, cszrn, cszrc, rfl⟩ := ow_slice oszr)
        | (with_reducible show (if _ then Oper.wp _ _ _ ws0r _ _ else _)
           refine sstJ_Int64SS (Ss0r.sel [0, 1, 2, 3, 4]) rfl rfl rfl rfl hlen ?_
           intro za zn zc w9 SN
           have kN : ((w9).cell? ⟨w.heap.size, 0, none⟩ = some (.int .i64 r.letters) ∧ (w9).cell? ⟨w.heap.size, 1, none⟩ = some (.int .i64 r.start) ∧ (w9).cell? ⟨w.heap.size, 2, none⟩ = some (.slice pa pn pc) ∧ (w9).cell? ⟨w.heap.size + 1, 2, none⟩ = some (.slice ra rn rc)) := ⟨((SN).blk 3 rfl).cell 0 rfl, ((SN).blk 3 rfl).cell 1 rfl, ((SN).blk 3 rfl).cell 2 rfl, ((SN).blk 2 rfl).cell 2 rfl⟩
           have kNa := fun o => (⟨cell_al kN.1 o, cell_al kN.2.1 o, cell_al kN.2.2.1 o, cell_al kN.2.2.2 o⟩ : (((w9).alloc o).cell? ⟨w.heap.size, 0, none⟩ = some (.int .i64 r.letters) ∧ ((w9).alloc o).cell? ⟨w.heap.size, 1, none⟩ = some (.int .i64 r.start) ∧ ((w9).alloc o).cell? ⟨w.heap.size, 2, none⟩ = some (.slice pa pn pc) ∧ ((w9).alloc o).cell? ⟨w.heap.size + 1, 2, none⟩ = some (.slice ra rn rc))))
        | (with_reducible show (if _ then Oper.wp _ _ _ (World.alloc ws0r _) _ _ else _)
           refine sstJ_Int64SS ((Ss0r.alloc (cs := #[.int .i64 0, .int .i64 0, .slice none 0 0, .slice none 0 0]) (ty := 28)).sel [1, 2, 0, 3, 4, 5]) rfl rfl rfl rfl hlen ?_
           intro za zn zc w9 SZ
           have kZ : ((w9).cell? ⟨w.heap.size, 0, none⟩ = some (.int .i64 r.letters) ∧ (w9).cell? ⟨w.heap.size, 1, none⟩ = some (.int .i64 r.start) ∧ (w9).cell? ⟨w.heap.size, 2, none⟩ = some (.slice pa pn pc) ∧ (w9).cell? ⟨w.heap.size + 1, 2, none⟩ = some (.slice ra rn rc)) := ⟨((SZ).blk 4 rfl).cell 0 rfl, ((SZ).blk 4 rfl).cell 1 rfl, ((SZ).blk 4 rfl).cell 2 rfl, ((SZ).blk 3 rfl).cell 2 rfl⟩
           have kZa := fun o => (⟨cell_al kZ.1 o, cell_al kZ.2.1 o, cell_al kZ.2.2.1 o, cell_al kZ.2.2.2 o⟩ : (((w9).alloc o).cell? ⟨w.heap.size, 0, none⟩ = some (.int .i64 r.letters) ∧ ((w9).alloc o).cell? ⟨w.heap.size, 1, none⟩ = some (.int .i64 r.start) ∧ ((w9).alloc o).cell? ⟨w.heap.size, 2, none⟩ = some (.slice pa pn pc) ∧ ((w9).alloc o).cell? ⟨w.heap.size + 1, 2, none⟩ = some (.slice ra rn rc)))
           have z0 := (SZ.blk 1 rfl).cell 0 rfl
           have z1 := (SZ.blk 1 rfl).cell 1 rfl
           have z2 := (SZ.blk 1 rfl).cell 2 rfl
           have z3 := (SZ.blk 1 rfl).cell 3 rfl
           have zf := (SZ.blk 1 rfl).free)
        | (with_reducible show (if _ then Oper.wp _ _ _ ws0zr _ _ else _)
           refine sstJ_Int64SS (Ss0zr.sel [0, 2, 1, 3, 4, 5]) rfl rfl rfl rfl hlen ?_
           intro za zn zc w9 SZ
           have kZ : ((w9).cell? ⟨w.heap.size, 0, none⟩ = some (.int .i64 r.letters) ∧ (w9).cell? ⟨w.heap.size, 1, none⟩ = some (.int .i64 r.start) ∧ (w9).cell? ⟨w.heap.size, 2, none⟩ = some (.slice pa pn pc) ∧ (w9).cell? ⟨w.heap.size + 1, 2, none⟩ = some (.slice ra rn rc)) := ⟨((SZ).blk 4 rfl).cell 0 rfl, ((SZ).blk 4 rfl).cell 1 rfl, ((SZ).blk 4 rfl).cell 2 rfl, ((SZ).blk 3 rfl).cell 2 rfl⟩
           have kZa := fun o => (⟨cell_al kZ.1 o, cell_al kZ.2.1 o, cell_al kZ.2.2.1 o, cell_al kZ.2.2.2 o⟩ : (((w9).alloc o).cell? ⟨w.heap.size, 0, none⟩ = some (.int .i64 r.letters) ∧ ((w9).alloc o).cell? ⟨w.heap.size, 1, none⟩ = some (.int .i64 r.start) ∧ ((w9).alloc o).cell? ⟨w.heap.size, 2, none⟩ = some (.slice pa pn pc) ∧ ((w9).alloc o).cell? ⟨w.heap.size + 1, 2, none⟩ = some (.slice ra rn rc)))
           have z0 := (SZ.blk 1 rfl).cell 0 rfl
           have z1 := (SZ.blk 1 rfl).cell 1 rfl
           have z2 := (SZ.blk 1 rfl).cell 2 rfl
           have z3 := (SZ.blk 1 rfl).cell 3 rfl
           have zf := (SZ.blk 1 rfl).free)
        | (with_reducible show (if _ then Oper.wp _ _ _ wszr _ _ else _)
           refine sstJ_Int64SS (Sszr.sel [0, 1, 2, 3, 4, 5]) rfl rfl rfl rfl hlen ?_
           intro za zn zc w9 SZ
           have kZ : ((w9).cell? ⟨w.heap.size, 0, none⟩ = some (.int .i64 r.letters) ∧ (w9).cell? ⟨w.heap.size, 1, none⟩ = some (.int .i64 r.start) ∧ (w9).cell? ⟨w.heap.size, 2, none⟩ = some (.slice pa pn pc) ∧ (w9).cell? ⟨w.heap.size + 1, 2, none⟩ = some (.slice ra rn rc)) := ⟨((SZ).blk 4 rfl).cell 0 rfl, ((SZ).blk 4 rfl).cell 1 rfl, ((SZ).blk 4 rfl).cell 2 rfl, ((SZ).blk 3 rfl).cell 2 rfl⟩
           have kZa := fun o => (⟨cell_al kZ.1 o, cell_al kZ.2.1 o, cell_al kZ.2.2.1 o, cell_al kZ.2.2.2 o⟩ : (((w9).alloc o).cell? ⟨w.heap.size, 0, none⟩ = some (.int .i64 r.letters) ∧ ((w9).alloc o).cell? ⟨w.heap.size, 1, none⟩ = some (.int .i64 r.start) ∧ ((w9).alloc o).cell? ⟨w.heap.size, 2, none⟩ = some (.slice pa pn pc) ∧ ((w9).alloc o).cell? ⟨w.heap.size + 1, 2, none⟩ = some (.slice ra rn rc)))
           have z0 := (SZ.blk 1 rfl).cell 0 rfl
           have z1 := (SZ.blk 1 rfl).cell 1 rfl
           have z2 := (SZ.blk 1 rfl).cell 2 rfl
           have z3 := (SZ.blk 1 rfl).cell 3 rfl
           have zf := (SZ.blk 1 rfl).free))
    all_goals
      go_wp2_with fail
      go_meet
      first
        | exact ⟨_, za, zn, zc, rfl, SN.alloc (cs := #[.int .i64 r.letters, .int .i64 r.start, .slice za zn zc, .slice none 0 0]) (ty := 28)⟩
        | exact ⟨_, za, zn, zc, rfl, (SZ.sel [1, 0, 2, 3, 4]).set4 rfl rfl⟩
  case rest =>
    clear HS a0 a1 a2 e2
    obtain ⟨g, ca, cn, cc, rfl, S⟩ := hcut
    rw [plusAll_zero] at S
    replace S := (S.nils intE 2).sel [1, 2, 3, 4, 5, 0]
    go_wp2
    go_loopw [8] (fun q wr => ∃ k : Nat, ∃ ve, k ≤ qn ∧ q = .int .i64 k ∧ Star w wr [oB g [.int .i64 r.letters, .int .i64 r.start, .slice ca cn cc, ve] 28, oE intssE [.slice ca cn cc] (r.next ++ plusAll s.next (pn : Int)), oB (w.heap.size + 1 + 1) [.int .i64 0, .int .i64 0, .slice none 0 0, .slice none 0 0] 28, oB (w.heap.size + 1) [.int .i64 s.letters, .int .i64 s.start, .slice ra rn rc, .slice ta tn tc] 28, oB w.heap.size [.int .i64 r.letters, .int .i64 r.start, .slice pa pn pc, .slice qa qn qc] 28, oE intsE [ve] ((r.fin.take k).map (thenFst (s.start + (pn : Int))))]) (fun q _ => qn - (intOf q).toNat)
    case atStart => exact ⟨0, _, by omega, rfl, by simpa using S⟩
    case round =>
      clear S
      obtain ⟨k, ve, hk, rfl, S⟩ := hrel
      obtain ⟨ea, en, ec, rfl⟩ := S.slc 5 rfl
      have X0 := S.blk 0 rfl
      have c2 := X0.cell 2 rfl
      have c3 := X0.cell 3 rfl
      have y3 := (S.blk 4 rfl).cell 3 rfl
      have y1 := (S.blk 3 rfl).cell 1 rfl
      by_cases hlt : k < qn
      case neg =>
        obtain rfl : qn = k := by omega
        have ht : r.fin.take qn = r.fin := List.take_of_length_le (by rw [HQ.out]; exact Nat.le_refl _)
        rw [ht] at S
        clear ht X0
        have z2 := (S.blk 3 rfl).cell 2 rfl
        go_wp2
        clear z2
        go_loopw [10] (fun q wr => ∃ k : Nat, ∃ ve, k ≤ tn ∧ q = .int .i64 k ∧ Star w wr [oB g [.int .i64 r.letters, .int .i64 r.start, .slice ca cn cc, ve] 28, oE intssE [.slice ca cn cc] (r.next ++ plusAll s.next (pn : Int)), oB (w.heap.size + 1 + 1) [.int .i64 0, .int .i64 0, .slice none 0 0, .slice none 0 0] 28, oB (w.heap.size + 1) [.int .i64 s.letters, .int .i64 s.start, .slice ra rn rc, .slice ta tn tc] 28, oB w.heap.size [.int .i64 r.letters, .int .i64 r.start, .slice pa pn pc, .slice qa qn qc] 28, oE intsE [ve] ((r.fin.map (thenFst (s.start + (pn : Int)))) ++ (s.fin.take k).map (thenSnd (pn : Int)))]) (fun q _ => tn - (intOf q).toNat)
        case atStart => exact ⟨0, _, by omega, rfl, by simpa using S⟩
        case round =>
          clear S
          obtain ⟨k, ve, hk, rfl, S⟩ := hrel
          obtain ⟨ea, en, ec, rfl⟩ := S.slc 5 rfl
          have X0 := S.blk 0 rfl
          have c2 := X0.cell 2 rfl
          have c3 := X0.cell 3 rfl
          have y3 := (S.blk 3 rfl).cell 3 rfl
          have y1 := (S.blk 3 rfl).cell 1 rfl
          by_cases hlt : k < tn
          case neg =>
            obtain rfl : tn = k := by omega
            have ht : s.fin.take tn = s.fin := List.take_of_length_le (by rw [HT.out]; exact Nat.le_refl _)
            rw [ht] at S
            clear ht X0
            have R0 := S.blk 2 rfl
            have f0 := R0.cell 0 rfl
            have f1 := R0.cell 1 rfl
            have f2 := R0.cell 2 rfl
            have f3 := R0.cell 3 rfl
            have ff := R0.free
            have c0 := (S.blk 0 rfl).cell 0 rfl
            have c1 := (S.blk 0 rfl).cell 1 rfl
            go_wp2
            generalize hW : (((wr.setCell _ _).setCell _ _).setCell _ _).setCell _ _ = w5
            have S5 := (S.sel [2, 1, 5]).set4 rfl hW
            have A3 := S5.blk 0 rfl
            have q0 := A3.cell 0 rfl
            have q1 := A3.cell 1 rfl
            have q2 := A3.cell 2 rfl
            have q3 := A3.cell 3 rfl
            have S6 := ((S5.int b1).int b2).sel [1, 0, 3, 4]
            obtain rfl := HX.out
            rw [← HP.out]
            exact bodyPost_ret (v := .tuple #[.agg #[.int .i64 r.letters, .int .i64 r.start, .slice ca cn cc, .slice ea en ec], .int .i64 0]) (by simp [results, Try.results15, go_sem, q0, q1, q2, q3]) rfl (rot_done (x := ⟨r.letters, r.start, r.next ++ plusAll s.next pn, (r.fin.map (thenFst (s.start + (pn : Int)))) ++ s.fin.map (thenSnd (pn : Int))⟩) S6)
          obtain ⟨bb, oo, rfl, -, hc, -, -⟩ := G3.out k hlt
          have hkl : k < s.fin.length := by rw [← HT.out]; exact hlt
          have hget : s.fin[k]?.getD 0 = s.fin[k] := by simp [List.getElem?_eq_getElem hkl]
          rw [hget] at hc
          have hbd := KK.out.fin _ (List.getElem_mem hkl)
          have hn6 := KK.out.n6
          have hm6 := KH.out.n6
          have hs0 := KK.out.s0
          have hsn := KK.out.sn
          have hs6 := KK.out.n6
          have hpp := HP.out
          have g1 := (S.below.cell (World.block_lt_of_cell? w _ hc)).trans hc
          have htk : (s.fin.take (k + 1)).map (thenSnd (pn : Int)) = (s.fin.take k).map (thenSnd (pn : Int)) ++ [(thenSnd (pn : Int)) s.fin[k]] := by rw [List.take_succ_eq_append_getElem hkl, List.map_append]; rfl
          have hll : ((r.fin.map (thenFst (s.start + (pn : Int)))) ++ (s.fin.take k).map (thenSnd (pn : Int))).length ≤ 1000000000000 := by
            have := List.length_take_le k s.fin
            have := KH.out.fl; have := KK.out.fl; have := HR.out; have := HQ.out; have := HT.out
            simp only [List.length_append, List.length_map]
            omega
          obtain ⟨e, hee⟩ : ∃ e, e = s.fin[k] := ⟨_, rfl⟩
          rw [← hee] at hbd g1 htk
          have HTK := Lib.hid htk
          have HPP := Lib.hid hpp
          clear hc hget htk hee hpp
          by_cases he : 0 ≤ e
          all_goals
            first
              | (have hv : (thenSnd (pn : Int)) e = e + (pn : Int) := if_pos he
                 have HV := Lib.hid hv; clear hv
                 have hw : IntKind.i64.wrap (e + (pn : Int)) = e + (pn : Int) := IntWalk.i64_in _ ⟨by have := HPP.out; omega, by have := HPP.out; omega⟩
                 have tt : (decide (0 ≤ e)) = true := by simp [he]
                 have HE := Lib.hid he; clear he
                 have SA := ((S.alloc (cs := #[.int .i64 (e + (pn : Int))]) (ty := 2)).int (x := e + (pn : Int)) ⟨by have := HPP.out; omega, by have := HPP.out; omega⟩).sel [7, 0, 2, 3, 4, 5, 6])
              | (have hv : (thenSnd (pn : Int)) e = e := if_neg he
                 have HV := Lib.hid hv; clear hv
                 have tt : (decide (0 ≤ e)) = false := by simp [he]
                 have HE := Lib.hid he; clear he
                 have SA := ((S.alloc (cs := #[.int .i64 (e)]) (ty := 2)).int (x := e) ⟨by have := HPP.out; omega, by have := HPP.out; omega⟩).sel [7, 0, 2, 3, 4, 5, 6])
            go_wp2_with (at_builtin; refine st1_Int64S SA rfl rfl rfl rfl cell_a1 (one_mem rfl) hll ?_; intro za zn zc w9 S9; have c3 := (S9.blk 1 rfl).cell 3 rfl; have cf := (S9.blk 1 rfl).free)
            have SB := (S9.sel [1, 2, 3, 4, 5, 0]).set 3 (.slice za zn zc)
            go_roundw
            case rel => exact ⟨k + 1, _, by omega, by go_num, by rw [HTK.out, HV.out]; simpa using SB⟩
            case measure => simp [intOf]; omega
      obtain ⟨bb, oo, rfl, -, hc, -, -⟩ := E3.out k hlt
      have hkl : k < r.fin.length := by rw [← HQ.out]; exact hlt
      have hget : r.fin[k]?.getD 0 = r.fin[k] := by simp [List.getElem?_eq_getElem hkl]
      rw [hget] at hc
      have hbd := KH.out.fin _ (List.getElem_mem hkl)
      have hn6 := KH.out.n6
      have hm6 := KH.out.n6
      have hs0 := KK.out.s0
      have hsn := KK.out.sn
      have hs6 := KK.out.n6
      have hpp := HP.out
      have g1 := (S.below.cell (World.block_lt_of_cell? w _ hc)).trans hc
      have htk : (r.fin.take (k + 1)).map (thenFst (s.start + (pn : Int))) = (r.fin.take k).map (thenFst (s.start + (pn : Int))) ++ [(thenFst (s.start + (pn : Int))) r.fin[k]] := by rw [List.take_succ_eq_append_getElem hkl, List.map_append]; rfl
      have hll : ((r.fin.take k).map (thenFst (s.start + (pn : Int)))).length ≤ 1000000000000 := by
        have := List.length_take_le k r.fin
        have := KH.out.fl; have := KK.out.fl; have := HR.out; have := HQ.out; have := HT.out
        simp only [List.length_append, List.length_map]
        omega
      obtain ⟨e, hee⟩ : ∃ e, e = r.fin[k] := ⟨_, rfl⟩
      rw [← hee] at hbd g1 htk
      have HTK := Lib.hid htk
      have HPP := Lib.hid hpp
      clear hc hget htk hee hpp
      by_cases he : e = -1
      all_goals
        first
          | (have hv : (thenFst (s.start + (pn : Int))) e = s.start + (pn : Int) := if_pos he
             have HV := Lib.hid hv; clear hv
             have hw : IntKind.i64.wrap (s.start + (pn : Int)) = s.start + (pn : Int) := IntWalk.i64_in _ ⟨by have := HPP.out; omega, by have := HPP.out; omega⟩
             have tt : (e == -1) = true := by simp [he]
             have HE := Lib.hid he; clear he
             have SA := ((S.alloc (cs := #[.int .i64 (s.start + (pn : Int))]) (ty := 2)).int (x := s.start + (pn : Int)) ⟨by have := HPP.out; omega, by have := HPP.out; omega⟩).sel [7, 0, 2, 3, 4, 5, 6])
          | (have hv : (thenFst (s.start + (pn : Int))) e = e := if_neg he
             have HV := Lib.hid hv; clear hv
             have tt : (e == -1) = false := by simp [he]
             have HE := Lib.hid he; clear he
             have SA := ((S.alloc (cs := #[.int .i64 (e)]) (ty := 2)).int (x := e) ⟨by have := HPP.out; omega, by have := HPP.out; omega⟩).sel [7, 0, 2, 3, 4, 5, 6])
        go_wp2_with (at_builtin; refine st1_Int64S SA rfl rfl rfl rfl cell_a1 (one_mem rfl) hll ?_; intro za zn zc w9 S9; have c3 := (S9.blk 1 rfl).cell 3 rfl; have cf := (S9.blk 1 rfl).free)
        have SB := (S9.sel [1, 2, 3, 4, 5, 0]).set 3 (.slice za zn zc)
        go_roundw
        case rel => exact ⟨k + 1, _, by omega, by go_num, by rw [HTK.out, HV.out]; simpa using SB⟩
        case measure => simp [intOf]; omega

end Go.Proofs.Ytaaiabfhnfjlpaa
