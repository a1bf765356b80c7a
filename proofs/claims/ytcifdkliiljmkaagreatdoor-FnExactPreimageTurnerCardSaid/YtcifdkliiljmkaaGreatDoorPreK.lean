/-
  preimage of the program (written by a program of this claim's own, gen_pre.py).
-/
import Derived.Test.YtcifdkliiljmkaaGreatDoorAfterK
import Derived.Test.YtcifdkliiljmkaaGreatDoorTurnOutK
import Derived.Test.YtcifdkliiljmkaaGreatDoorTWriterK
import Derived.Test.YtcifdkliiljmkaaGreatDoorStarJK
import Derived.Deep.DeepCutAuto
namespace Go.Proofs.YtcifdkliiljmkaaGreatDoor
open Go.RowKit

theorem moveOk_bd {m : Move} {n l k : Int} (h : moveOk m n l k = true) : (-2 ≤ m.to ∧ (m.to < n ∨ m.to < 0)) ∧ (-1 ≤ m.dir ∧ m.dir ≤ 1) := by
  unfold moveOk at h
  rw [Bool.or_eq_true] at h
  rcases h with h | h
  · unfold isStopB at h
    rw [Bool.and_eq_true, Bool.or_eq_true, beq_iff_eq, beq_iff_eq, beq_iff_eq] at h
    rcases h.1 with h1 | h1 <;> exact ⟨⟨by omega, .inr (by omega)⟩, by omega⟩
  · rw [Bool.and_eq_true, Bool.and_eq_true, Bool.and_eq_true] at h
    have h1 := within_true.1 h.1.1.1
    have h2 := within_true.1 h.1.1.2
    exact ⟨⟨by omega, .inl (by omega)⟩, by omega⟩

set_option maxHeartbeats 8000000 in
set_option maxRecDepth 100000 in
theorem preimage_is (x : Turner × Int) (cs : List Value) (u : Writer) (ds : List Value) (r : Reader) (B : Nat) (w : World) (hB0 : B ≤ w.heap.size) (h : writE.rd w B cs u) (h' : readE.rd w B ds r) (hx : preimg u r = x) :
    Calls Tryz.prog 35 #[.agg cs.toArray, .agg ds.toArray] w (MakesC turnE x w) := by
  have HX := Lib.hid hx
  have RA := Lib.hid h
  have RB := Lib.hid h'
  obtain ⟨u2, u3, rfl, k0, k1, k2, k3⟩ := rd_WriterF h
  have K2 := Lib.hid k2; have K3 := Lib.hid k3
  obtain ⟨ta, tn, tc, rfl⟩ := rd_slice k2
  obtain ⟨oa, on, oc, rfl⟩ := rd_slice k3
  obtain ⟨v3, v4, rfl, b1, b2, h3, h4⟩ := rd_Reader h'
  have H3 := Lib.hid h3; have H4 := Lib.hid h4
  obtain ⟨ba, bn, bc, rfl⟩ := rd_slice h3
  obtain ⟨na, nn, nc, rfl⟩ := rd_slice h4
  clear hx h h' k2 k3 h3 h4
  have S := (((Star.nil w).alloc (cs := #[.int .i64 u.turner.letters, .int .i64 u.turner.start, .slice ta tn tc, .slice oa on oc]) (ty := 40)).alloc (cs := #[.int .i64 r.letters, .int .i64 r.start, .slice ba bn bc, .slice na nn nc]) (ty := 42)).alloc (cs := #[.int .i64 0, .int .i64 0, .slice none 0 0]) (ty := 36)
  rw [World.size_alloc, World.size_alloc] at S
  go_enter Tryz.func35, Tryz.ntmps35
  go_wp2_with fail
  generalize hW : ((w.alloc _).alloc _).alloc _ = w0 at S ⊢
  clear hW
  replace S : Star w w0 [oB (w.heap.size + 1 + 1) [.int .i64 0, .int .i64 0, .slice none 0 0] 36, oB (w.heap.size + 1) [.int .i64 r.letters, .int .i64 r.start, .slice ba bn bc, .slice na nn nc] 42, oB w.heap.size [.int .i64 u.turner.letters, .int .i64 u.turner.start, .slice ta tn tc, .slice oa on oc] 40] := S
  refine (validWriter_any _ u B _ (Nat.le_trans hB0 S.below.size) (writE.rd_of (S.below.mono hB0) RA.out)).mono ?_
  rintro e w1 ⟨rfl, b⟩
  replace S := S.step b
  clear b
  cases h1 : writerOk u
  case false =>
    clear K2 K3 H3 H4
    have R0 := S.blk 0 rfl
    have c0 := R0.cell 0 rfl
    have c1 := R0.cell 1 rfl
    have c2 := R0.cell 2 rfl
    have f0 := R0.free
    go_wp2
    generalize hW : ((w1.setCell _ _).setCell _ _).setCell _ _ = w9
    replace S := S.set3 rfl hW
    have A3 := S.blk 0 rfl
    have q0 := A3.cell 0 rfl
    have q1 := A3.cell 1 rfl
    have q2 := A3.cell 2 rfl
    obtain rfl : x = (default, 1) := by rw [← HX.out]; unfold preimg; rw [h1]; rfl
    exact bodyPost_ret (v := .tuple #[.agg #[.int .i64 0, .int .i64 0, .slice none 0 0], .int .i64 1]) (by simp [results, Tryz.results35, go_sem, q0, q1, q2]) rfl (S.flat (ow_Turner_zero _)).done
  have e0 := (S.blk 1 rfl).cell 0 rfl
  have e1 := (S.blk 1 rfl).cell 1 rfl
  have e2 := (S.blk 1 rfl).cell 2 rfl
  have e3 := (S.blk 1 rfl).cell 3 rfl
  go_wp2_with fail
  clear e0 e1 e2 e3
  refine (validReader_any _ r B _ (Nat.le_trans hB0 S.below.size) (readE.rd_of (S.below.mono hB0) RB.out)).mono ?_
  rintro e w2 ⟨rfl, b⟩
  replace S := S.step b
  clear b
  cases h2 : validRead r
  case false =>
    clear K2 K3 H3 H4
    have R0 := S.blk 0 rfl
    have c0 := R0.cell 0 rfl
    have c1 := R0.cell 1 rfl
    have c2 := R0.cell 2 rfl
    have f0 := R0.free
    go_wp2
    generalize hW : ((w2.setCell _ _).setCell _ _).setCell _ _ = w9
    replace S := S.set3 rfl hW
    have A3 := S.blk 0 rfl
    have q0 := A3.cell 0 rfl
    have q1 := A3.cell 1 rfl
    have q2 := A3.cell 2 rfl
    obtain rfl : x = (default, 1) := by rw [← HX.out]; unfold preimg; rw [h1, h2]; rfl
    exact bodyPost_ret (v := .tuple #[.agg #[.int .i64 0, .int .i64 0, .slice none 0 0], .int .i64 1]) (by simp [results, Tryz.results35, go_sem, q0, q1, q2]) rfl (S.flat (ow_Turner_zero _)).done
  have e0 := (S.blk 1 rfl).cell 0 rfl
  by_cases h3 : r.letters = 3
  case neg =>
    have t3 : (r.letters != 3) = true := by simpa using h3
    clear K2 K3 H3 H4
    have R0 := S.blk 0 rfl
    have c0 := R0.cell 0 rfl
    have c1 := R0.cell 1 rfl
    have c2 := R0.cell 2 rfl
    have f0 := R0.free
    go_wp2
    generalize hW : ((w2.setCell _ _).setCell _ _).setCell _ _ = w9
    replace S := S.set3 rfl hW
    have A3 := S.blk 0 rfl
    have q0 := A3.cell 0 rfl
    have q1 := A3.cell 1 rfl
    have q2 := A3.cell 2 rfl
    obtain rfl : x = (default, 2) := by rw [← HX.out]; unfold preimg; rw [h1, h2]; show (if r.letters = 3 then _ else _) = _; rw [if_neg h3]
    exact bodyPost_ret (v := .tuple #[.agg #[.int .i64 0, .int .i64 0, .slice none 0 0], .int .i64 2]) (by simp [results, Tryz.results35, go_sem, q0, q1, q2]) rfl (S.flat (ow_Turner_zero _)).done
  have t3 : (r.letters != 3) = false := by simpa using h3
  have KW := writOk_of h1
  have KR := readOk_of h2
  obtain ⟨n, hn⟩ : ∃ n, n = r.accept.length := ⟨_, rfl⟩
  obtain ⟨m, hm⟩ : ∃ m, m = u.turner.moves.length := ⟨_, rfl⟩
  have hn300 : n ≤ 300 := by rw [hn]; exact KR.n300
  have hm12 : m ≤ 12 := by rw [hm]; exact KW.t.n12
  have hX : x = (preT u r, 0) := by rw [← HX.out]; unfold preimg; rw [h1, h2]; show (if r.letters = 3 then _ else _) = _; rw [if_pos h3]
  obtain ⟨St, hSt⟩ : ∃ k : Nat, u.turner.start = k := ⟨u.turner.start.toNat, by have := KW.t.s0; omega⟩
  obtain ⟨Rs, hRs⟩ : ∃ k : Nat, r.start = k := ⟨r.start.toNat, by have := KR.s0; omega⟩
  have hSt12 : St ≤ 11 := by have := KW.t.s1; omega
  have hn0 : 0 < r.accept.length := KR.n1
  have hRs300 : Rs ≤ 299 := by have := KR.s1; omega
  have hmul : St * n ≤ 3300 := Nat.le_trans (Nat.mul_le_mul hSt12 hn300) (by decide)
  obtain ⟨p, hp⟩ : ∃ p, p = St * n := ⟨_, rfl⟩
  have hpz : (St : Int) * (n : Int) = (p : Int) := by rw [hp]; push_cast; rfl
  rw [← hp] at hmul
  have wS : IntKind.i64.wrap ((St : Int) * (n : Int)) = (p : Int) := by rw [hpz]; exact IntWalk.i64_in _ ⟨by omega, by omega⟩
  have wT : IntKind.i64.wrap ((p : Int) + (Rs : Int)) = (p : Int) + (Rs : Int) := IntWalk.i64_in _ ⟨by omega, by omega⟩
  have hT : preT u r = ⟨u.turner.letters, (p : Int) + Rs, preRows u r⟩ := by unfold preT; rw [hSt, hRs, ← hn, hpz]
  have hnn : r.next.length = n := by rw [KR.nn, hn]
  have HKW := Lib.hid KW; have HKR := Lib.hid KR; have HN := Lib.hid hn; have HM := Lib.hid hm; have HX2 := Lib.hid hX; have HT := Lib.hid hT; have HNN := Lib.hid hnn
  have HV2 := Lib.hid h2; have HL3 := Lib.hid h3
  obtain ⟨ba', bc', hb', -, -, -, b4'⟩ := rd_bools H3.out
  simp only [Value.slice.injEq] at hb'
  obtain ⟨rfl, rfl, rfl⟩ := hb'
  obtain ⟨zb, zo, rfl, -, -⟩ := b4' 0 hn0
  have HZ : Hid (∀ k, k < n → w.cell? ⟨zb, zo + k, none⟩ = some (.bool (r.accept[k]?.getD false))) := Lib.hid (fun k hk => by
    obtain ⟨b, o, hb, -, hc⟩ := b4' k (by rw [← hn]; exact hk)
    cases hb
    exact hc)
  clear b4' hn0
  rw [← hn] at S H3 RB
  rw [hSt, hRs] at S
  have HRB2 : Hid (readE.rd w B [.int .i64 3, .int .i64 (Rs : Int), .slice (some ⟨zb, zo, none⟩) n bc, .slice na nn nc] r) := Lib.hid (by have := RB.out; rw [h3, hRs] at this; exact this)
  rw [h3] at S e0 t3
  clear KW KR hX hT hp hpz hnn HX RA RB hSt hRs hm hn h1 h2 h3
  have e3 := (S.blk 1 rfl).cell 3 rfl
  go_wp2_with fail
  clear e0 e3 t3
  refine (size_intss _ r.next B _ (intssE.rd_of (S.below.mono hB0) H4.out)).mono ?_
  rintro e w3 ⟨rfl, b⟩
  rw [HNN.out]
  replace S := S.step b
  clear b
  have a0 := (S.blk 2 rfl).cell 0 rfl
  have a1 := (S.blk 2 rfl).cell 1 rfl
  have a2 := fun o => ((S.blk 2 rfl).alloc o).cell 2 rfl
  have e1 := (S.blk 1 rfl).cell 1 rfl
  replace S := ((S.alloc (cs := #[.int .i64 u.turner.letters, .int .i64 ((p : Int) + (Rs : Int)), .slice none 0 0]) (ty := 36)).nils movesE 91).sel [1, 2, 3, 4, 0]
  obtain ⟨ta', tc', ht, q1, q2, -, q4⟩ := rd_slice1 rfl K2.out
  obtain ⟨oa', oc', ho, o1, o2, -, o4⟩ := rd_slice1 rfl K3.out
  simp only [Value.slice.injEq] at ht ho
  obtain ⟨rfl, rfl, rfl⟩ := ht
  obtain ⟨rfl, rfl, rfl⟩ := ho
  rw [← HM.out] at q1 q4 S a2 ⊢
  have hom : u.out.length = m := by rw [HKW.out.n, HM.out]
  rw [hom] at o1 o4 S ⊢
  have Q4 := Lib.hid q4; have O4 := Lib.hid o4
  clear q4 o4 hom
  go_wp2
  clear a0 a1 a2 e1 wS wT
  generalize hW : w3.alloc _ = w4 at S ⊢
  clear hW
  obtain ⟨g, hg⟩ : ∃ g, g = w3.heap.size := ⟨_, rfl⟩
  rw [← hg] at S ⊢
  clear hg
  obtain ⟨X, hXX⟩ : ∃ X, X = (p : Int) + (Rs : Int) := ⟨_, rfl⟩
  have bX : -9223372036854775808 ≤ X ∧ X ≤ 9223372036854775807 := by omega
  rw [← hXX] at S ⊢
  have HXX := Lib.hid hXX
  clear hXX
  go_loopw [49] (fun q wr => ∃ (k : Nat) (vm : Value), k ≤ m ∧ q = .int .i64 k ∧ Star w wr [oB g [.int .i64 u.turner.letters, .int .i64 X, vm] 36, oB (w.heap.size + 1 + 1) [.int .i64 0, .int .i64 0, .slice none 0 0] 36, oB (w.heap.size + 1) [.int .i64 3, .int .i64 (Rs : Int), .slice (some ⟨zb, zo, none⟩) n bc, .slice na nn nc] 42, oB w.heap.size [.int .i64 u.turner.letters, .int .i64 (St : Int), .slice ta m tc, .slice oa m oc] 40, oE movessE [vm] ((List.range k).flatMap (preCol u r))]) (fun q _ => m - (intOf q).toNat)
  case atStart => exact ⟨0, _, by omega, rfl, S⟩
  case round =>
    clear S
    obtain ⟨k, vm, hk, rfl, S⟩ := hrel
    obtain ⟨ua, un, uc, rfl⟩ := S.slc 4 rfl
    by_cases hlt : k < m
    case neg =>
      obtain rfl : m = k := by omega
      have x0 := (S.blk 0 rfl).cell 0 rfl
      have x1 := (S.blk 0 rfl).cell 1 rfl
      have x2 := (S.blk 0 rfl).cell 2 rfl
      have R0 := S.blk 1 rfl
      have f0 := R0.cell 0 rfl
      have f1 := R0.cell 1 rfl
      have f2 := R0.cell 2 rfl
      have ff := R0.free
      go_wp2
      generalize hW : ((wr.setCell _ _).setCell _ _).setCell _ _ = w5
      have S5 := (S.sel [1, 4]).set3 rfl hW
      have A3 := S5.blk 0 rfl
      have q0 := A3.cell 0 rfl
      have q1 := A3.cell 1 rfl
      have q2 := A3.cell 2 rfl
      have S6 := ((S5.int bX).int k0).sel [0, 1, 3]
      obtain rfl := HX2.out
      have hTT : preT u r = ⟨u.turner.letters, X, (List.range m).flatMap (preCol u r)⟩ := by rw [HT.out, HXX.out]; unfold preRows; rw [← HM.out]
      rw [hTT]
      exact bodyPost_ret (v := .tuple #[.agg #[.int .i64 u.turner.letters, .int .i64 X, .slice ua un uc], .int .i64 0]) (by simp [results, Tryz.results35, go_sem, q0, q1, q2]) rfl (turn_done (x := ⟨u.turner.letters, X, (List.range m).flatMap (preCol u r)⟩) S6)
    obtain ⟨rb, ro, vk, rfl, -, hrc, hrd⟩ := Q4.out k hlt
    obtain ⟨ob, oo, vo, rfl, -, hoc, hod⟩ := O4.out k hlt
    have hmem := mem_getD (l := u.turner.moves) (k := k) (by rw [← HM.out]; exact hlt)
    have hrow := HKW.out.t.row _ hmem
    have hrl5 := HKW.out.t.len hmem
    have hko : k < u.out.length := by rw [HKW.out.n, ← HM.out]; exact hlt
    obtain ⟨hol, hob⟩ := HKW.out.row k hko
    have hpr : ∀ s, preRow u r k s = (List.range (u.turner.moves[k]?.getD default).length).map fun j => preMove r n ((u.turner.moves[k]?.getD default)[j]?.getD default) (afterL r s ((u.out[k]?.getD default)[j]?.getD ByteArray.empty).data.toList) := fun s => by unfold preRow; rw [← HN.out]
    obtain ⟨row, hrow2⟩ : ∃ y, y = u.turner.moves[k]?.getD default := ⟨_, rfl⟩
    obtain ⟨orow, horow⟩ : ∃ y, y = u.out[k]?.getD default := ⟨_, rfl⟩
    rw [← hrow2] at hrd hrow hrl5 hol hpr
    rw [← horow] at hod hob hol hpr
    obtain ⟨ma, mc, rfl, m1, m2, -, m4⟩ := rd_movesE hrd
    obtain ⟨pa, pc, rfl, p1, p2, -, p4⟩ := rd_strs hod
    rw [hol] at p1 p4 hoc
    obtain ⟨rl, hrl⟩ : ∃ y, y = row.length := ⟨_, rfl⟩
    rw [← hrl] at m1 m4 hrc p1 p4 hoc hrl5 hpr hol
    have hll2 : ((List.range k).flatMap (preCol u r)).length ≤ 3600 := by
      rw [preRows_len, ← HN.out]
      exact Nat.le_trans (Nat.mul_le_mul (show k ≤ 12 by omega) hn300) (by decide)
    have HLL := Lib.hid hll2
    have HROW := Lib.hid hrow.2; have HRL := Lib.hid hrl; have HOL := Lib.hid hol; have HOB := Lib.hid hob; have HPR := Lib.hid hpr
    have M4 := Lib.hid m4; have P4 := Lib.hid p4; have HOC := Lib.hid hoc
    have BW := S.below
    have cr := (BW.cell (World.block_lt_of_cell? w _ hrc)).trans hrc
    clear hmem hrow hko hob hrow2 horow hrd hod m4 p4 hrc hoc hpr hrl hol hll2 BW
    go_wp2
    clear cr
    go_loopw [55] (fun q wr => ∃ (s : Nat) (vm : Value), s ≤ n ∧ q = .int .i64 s ∧ Star w wr [oB g [.int .i64 u.turner.letters, .int .i64 X, vm] 36, oB (w.heap.size + 1 + 1) [.int .i64 0, .int .i64 0, .slice none 0 0] 36, oB (w.heap.size + 1) [.int .i64 3, .int .i64 (Rs : Int), .slice (some ⟨zb, zo, none⟩) n bc, .slice na nn nc] 42, oB w.heap.size [.int .i64 u.turner.letters, .int .i64 (St : Int), .slice (some ⟨rb, ro, none⟩) m tc, .slice (some ⟨ob, oo, none⟩) m oc] 40, oE movessE [vm] ((List.range k).flatMap (preCol u r) ++ (List.range s).map (preRow u r k))]) (fun q _ => n - (intOf q).toNat)
    case atStart => exact ⟨0, _, by omega, rfl, by simpa using S⟩
    case round =>
      clear S
      obtain ⟨s, vm, hs, rfl, S⟩ := hrel
      by_cases hsn : s < n
      case neg =>
        obtain rfl : n = s := by omega
        have hst : (List.range (k + 1)).flatMap (preCol u r) = (List.range k).flatMap (preCol u r) ++ (List.range n).map (preRow u r k) := by rw [preRows_succ, HN.out]; rfl
        have HST := Lib.hid hst
        clear hst
        go_wp2
        go_roundw
        case rel => exact ⟨k + 1, _, by omega, by go_num, by rw [HST.out]; exact S⟩
        case measure => simp [intOf]; omega
      obtain ⟨ya, yn, yc, rfl⟩ := S.slc 4 rfl
      replace S := ((S.alloc (cs := #[]) (ty := 93)).lit0 (α := Move) (E := moveE))
      go_wp2
      generalize hW : wr.alloc _ = w6 at S ⊢
      clear hW
      obtain ⟨g6, hg6⟩ : ∃ g, g = wr.heap.size := ⟨_, rfl⟩
      rw [← hg6] at S ⊢
      clear hg6
      go_loopw [11, 61] (fun vl j wr => ∃ (i : Nat) (v : Value), i ≤ rl ∧ vl = v ∧ j = .int .i64 i ∧ Star w wr [oE movesE [v] ((List.range i).map fun j => preMove r n (row[j]?.getD default) (afterL r s (orow[j]?.getD ByteArray.empty).data.toList)), oB g [.int .i64 u.turner.letters, .int .i64 X, .slice ya yn yc] 36, oB (w.heap.size + 1 + 1) [.int .i64 0, .int .i64 0, .slice none 0 0] 36, oB (w.heap.size + 1) [.int .i64 3, .int .i64 (Rs : Int), .slice (some ⟨zb, zo, none⟩) n bc, .slice na nn nc] 42, oB w.heap.size [.int .i64 u.turner.letters, .int .i64 (St : Int), .slice (some ⟨rb, ro, none⟩) m tc, .slice (some ⟨ob, oo, none⟩) m oc] 40, oE movessE [.slice ya yn yc] ((List.range k).flatMap (preCol u r) ++ (List.range s).map (preRow u r k))]) (fun _ j _ => rl - (intOf j).toNat)
      case atStart => exact ⟨0, _, by omega, rfl, rfl, S⟩
      case round =>
        clear S
        obtain ⟨i, v, hi, rfl, rfl, S⟩ := hrel
        obtain ⟨la, ln, lc, rfl⟩ := S.slc 0 rfl
        by_cases hil : i < rl
        case neg =>
          obtain rfl : rl = i := by omega
          have hst : (List.range k).flatMap (preCol u r) ++ (List.range (s + 1)).map (preRow u r k) = ((List.range k).flatMap (preCol u r) ++ (List.range s).map (preRow u r k)) ++ [(List.range rl).map fun j => preMove r n (row[j]?.getD default) (afterL r s (orow[j]?.getD ByteArray.empty).data.toList)] := by rw [preCol_succ, HPR.out s, List.append_assoc]
          have HST := Lib.hid hst
          have hlm : ((List.range k).flatMap (preCol u r) ++ (List.range s).map (preRow u r k)).length ≤ 1000000000000 := by
            have := HLL.out
            rw [List.length_append, List.length_map, List.length_range]
            omega
          clear hst
          have x2 := (S.blk 1 rfl).cell 2 rfl
          have SC := (S.alloc (cs := #[.slice la ln lc]) (ty := 91)).sel [6, 1, 2, 3, 4, 5]
          go_wp2_with (at_builtin; refine st1_MoveSS SC rfl rfl rfl rfl cell_a1 (one_mem rfl) hlm ?_; intro ja jn jc w9 S9; have x9 := (S9.blk 1 rfl).cell 2 rfl; have cf := (S9.blk 1 rfl).free)
          go_roundw
          case rel => exact ⟨s + 1, _, by omega, by go_num, by rw [HST.out]; exact (S9.sel [1, 2, 3, 4, 0]).set 2 (.slice ja jn jc)⟩
          case measure => simp [intOf]; omega
        obtain ⟨sb, so, rfl, -, ⟨hm0, hm1⟩, -⟩ := M4.out i hil
        obtain ⟨qb, qo, rfl, -, hq0, -⟩ := P4.out i hil
        have hok := moveOk_bd (HROW.out i (by rw [← HRL.out]; exact hil))
        have hout : outOk (orow[i]?.getD ByteArray.empty) = true := by
          have hio : i < orow.length := by rw [HOL.out]; exact hil
          rw [List.getElem?_eq_getElem hio]
          exact HOB.out _ (List.getElem_mem hio)
        have hst : (List.range (i + 1)).map (fun j => preMove r n (row[j]?.getD default) (afterL r s (orow[j]?.getD ByteArray.empty).data.toList)) = ((List.range i).map fun j => preMove r n (row[j]?.getD default) (afterL r s (orow[j]?.getD ByteArray.empty).data.toList)) ++ [preMove r n (row[i]?.getD default) (afterL r s (orow[i]?.getD ByteArray.empty).data.toList)] := by rw [List.range_succ, List.map_append]; rfl
        have hll : ((List.range i).map fun j => preMove r n (row[j]?.getD default) (afterL r s (orow[j]?.getD ByteArray.empty).data.toList)).length ≤ 1000000000000 := by rw [List.length_map, List.length_range]; omega
        have haf := HKR.out.after HL3.out (orow[i]?.getD ByteArray.empty).data.toList s (by rw [← HN.out]; exact hsn) (out_bytes hout)
        rw [← HN.out] at haf
        obtain ⟨mv, hmv⟩ : ∃ y, y = row[i]?.getD default := ⟨_, rfl⟩
        obtain ⟨tx, htx⟩ : ∃ y, y = orow[i]?.getD ByteArray.empty := ⟨_, rfl⟩
        rw [← hmv] at hm0 hm1 hok hst
        rw [← htx] at hq0 hout hst haf
        have hac := fun w' a (b : readE.rd w' B [.int .i64 3, .int .i64 (Rs : Int), .slice (some ⟨zb, zo, none⟩) n bc, .slice na nn nc] r) => Lib.hid (after_any _ r s tx B w' a b HV2.out HL3.out (by rw [← HN.out]; exact hsn) hout)
        obtain ⟨s2, hs2⟩ : ∃ y, y = afterL r s tx.data.toList := ⟨_, rfl⟩
        rw [← hs2] at haf hst hac
        obtain ⟨⟨ht2, htm⟩, hd1, hd2⟩ := hok
        rw [← HM.out] at htm
        have hbd : -9223372036854775808 ≤ mv.dir ∧ mv.dir ≤ 9223372036854775807 := ⟨by omega, by omega⟩
        have HS := Lib.hid hst
        clear hst hmv htx hs2 hout
        have BW := S.below
        have q0 := (BW.cell (World.block_lt_of_cell? w _ hm0)).trans hm0
        have q1 := (BW.cell (World.block_lt_of_cell? w _ hm1)).trans hm1
        clear hm0 hm1 BW
        go_upto_region 17 with fail
        replace S := S.alloc (cs := #[.int .i64 mv.to, .int .i64 mv.dir]) (ty := 93)
        generalize hW : wr.alloc _ = wk at S ⊢
        clear hW q0 q1
        obtain ⟨tb, htb⟩ : ∃ y, y = wr.heap.size := ⟨_, rfl⟩
        rw [← htb] at S ⊢
        clear htb
        have BK := S.below
        have y0 := (BK.cell (World.block_lt_of_cell? w _ HOC.out)).trans HOC.out
        have y1 := (BK.cell (World.block_lt_of_cell? w _ hq0)).trans hq0
        have g1 : ob < wk.heap.size := World.block_lt_of_cell? wk _ y0
        have g2 : qb < wk.heap.size := World.block_lt_of_cell? wk _ y1
        have c0 := (S.blk 4 rfl).cell 0 rfl
        have c1 := (S.blk 4 rfl).cell 1 rfl
        have c2 := (S.blk 4 rfl).cell 2 rfl
        have c3 := (S.blk 4 rfl).cell 3 rfl
        have d3 := (S.blk 5 rfl).cell 3 rfl
        have g3 := (S.blk 4 rfl).lt
        have g4 := (S.blk 5 rfl).lt
        have hov := cell_over wk
        have HBK := Lib.hid BK
        have i1 : (0 : Int) ≤ (k : Int) := by omega
        have i2 : (k : Int) < (m : Int) := by omega
        have i3 : (0 : Int) ≤ (i : Int) := by omega
        have i4 : (i : Int) < (rl : Int) := by omega
        clear hq0 BK
        refine wp_region_over (by kernel_rfl) (by kernel_rfl) ?_
        repeat (go_big_quiet_step ((go_at_call 69; exact calls_over (hac _ (Nat.le_trans hB0 (HBK.out.trans ((below_over wk _).mono HBK.out.size)).size) (readE.rd_of ((HBK.out.trans ((below_over wk _).mono HBK.out.size)).mono hB0) HRB2.out)).out)))
        refine wpQuiet_nil ?_
        intro w5 b5
        replace S := S.step b5
        clear b5 y0 y1 g1 g2 c0 c1 c2 c3 d3 g3 g4 hov HBK hac
        have b0 := (S.blk 0 rfl).cell 0 rfl
        have b1 := (S.blk 0 rfl).cell 1 rfl
        go_wp2_with fail
        refine (stops_any mv w5).mono ?_
        rintro e w7 ⟨rfl, b7⟩
        replace S := S.step b7
        clear b7 b0 b1
        by_cases hto : mv.to < 0
        case neg =>
          have tA : decide (mv.to < 0) = false := decide_eq_false hto
          obtain ⟨tq, hto2⟩ : ∃ t : Nat, mv.to = t := ⟨mv.to.toNat, by omega⟩
          have hmul : tq * n ≤ 3300 := Nat.le_trans (Nat.mul_le_mul (show tq ≤ 11 by omega) hn300) (by decide)
          obtain ⟨p2, hp2⟩ : ∃ p, p = tq * n := ⟨_, rfl⟩
          have hpz : mv.to * (n : Int) = (p2 : Int) := by rw [hp2, hto2]; push_cast; rfl
          rw [← hp2] at hmul
          have wA : IntKind.i64.wrap (mv.to * (n : Int)) = (p2 : Int) := by rw [hpz]; exact IntWalk.i64_in _ ⟨by omega, by omega⟩
          have wB : IntKind.i64.wrap ((p2 : Int) + (s2 : Int)) = (p2 : Int) + (s2 : Int) := IntWalk.i64_in _ ⟨by omega, by omega⟩
          have hbn : -9223372036854775808 ≤ (p2 : Int) + (s2 : Int) ∧ (p2 : Int) + (s2 : Int) ≤ 9223372036854775807 := ⟨by omega, by omega⟩
          have hF : preMove r n mv s2 = ⟨(p2 : Int) + (s2 : Int), mv.dir⟩ := by unfold preMove; rw [if_neg hto, hpz]
          have HSTEP := HS
          rw [hF] at HSTEP
          clear hF hto2 hp2 hpz HS
          have SB := (((S.set 0 (.int .i64 ((p2 : Int) + (s2 : Int)))).alloc (cs := #[.int .i64 ((p2 : Int) + (s2 : Int)), .int .i64 mv.dir]) (ty := 93)).move (x := ((p2 : Int) + (s2 : Int) : Int)) (y := mv.dir) hbn hbd).sel [3, 0, 4, 5, 6, 7, 8]
          have b0 := (S.blk 0 rfl).cell 0 rfl
          have b1 := (S.blk 0 rfl).cell 1 rfl
          have bf := (S.blk 0 rfl).free
          clear S
          go_wp2_with (at_builtin; refine st1_MoveS SB rfl rfl rfl rfl cell_s1 (one_mem2 rfl rfl) hll ?_; intro ja jn jc w9 S9)
          go_roundw
          case rel => exact ⟨i + 1, _, by omega, rfl, by go_num, by rw [HSTEP.out]; exact S9⟩
          case measure => simp [intOf]; omega
        have tA : decide (mv.to < 0) = true := decide_eq_true hto
        by_cases hm1 : mv.to = -1
        case neg =>
          have tB : (mv.to == -1) = false := by simpa using hm1
          have hbn : -9223372036854775808 ≤ mv.to ∧ mv.to ≤ 9223372036854775807 := ⟨by omega, by omega⟩
          have hF : preMove r n mv s2 = ⟨mv.to, mv.dir⟩ := by unfold preMove; rw [if_pos hto, if_neg (fun e => hm1 e.1)]
          have HSTEP := HS
          rw [hF] at HSTEP
          clear hF hm1 HS
          have SB := ((S.alloc (cs := #[.int .i64 (mv.to), .int .i64 mv.dir]) (ty := 93)).move (x := (mv.to : Int)) (y := mv.dir) hbn hbd).sel [3, 0, 4, 5, 6, 7, 8]
          have b0 := (S.blk 0 rfl).cell 0 rfl
          have b1 := (S.blk 0 rfl).cell 1 rfl
          have bf := (S.blk 0 rfl).free
          clear S
          go_wp2_with (at_builtin; refine st1_MoveS SB rfl rfl rfl rfl cell_a1 (one_mem2 rfl rfl) hll ?_; intro ja jn jc w9 S9)
          go_roundw
          case rel => exact ⟨i + 1, _, by omega, rfl, by go_num, by rw [HSTEP.out]; exact S9⟩
          case measure => simp [intOf]; omega
        have tB : (mv.to == -1) = true := by simpa using hm1
        have hz := HZ.out s2 haf
        have BW := S.below
        have z0 := (BW.cell (World.block_lt_of_cell? w _ hz)).trans hz
        have e2 := (S.blk 4 rfl).cell 2 rfl
        have i5 : (0 : Int) ≤ (s2 : Int) := by omega
        have i6 : (s2 : Int) < (n : Int) := by omega
        clear hz BW
        cases hac2 : r.accept[s2]?.getD false
        case false =>
          rw [hac2] at z0
          have hbn : -9223372036854775808 ≤ (-2 : Int) ∧ (-2 : Int) ≤ 9223372036854775807 := by decide
          have hF : preMove r n mv s2 = ⟨-2, mv.dir⟩ := by unfold preMove; rw [if_pos hto, if_pos ⟨hm1, hac2⟩]
          have HSTEP := HS
          rw [hF] at HSTEP
          clear hF HS hac2
          have SB := (((S.set 0 (.int .i64 (-2))).alloc (cs := #[.int .i64 (-2), .int .i64 mv.dir]) (ty := 93)).move (x := (-2 : Int)) (y := mv.dir) hbn hbd).sel [3, 0, 4, 5, 6, 7, 8]
          have b0 := (S.blk 0 rfl).cell 0 rfl
          have b1 := (S.blk 0 rfl).cell 1 rfl
          have bf := (S.blk 0 rfl).free
          clear S
          go_wp2_with (at_builtin; refine st1_MoveS SB rfl rfl rfl rfl cell_s1 (one_mem2 rfl rfl) hll ?_; intro ja jn jc w9 S9)
          go_roundw
          case rel => exact ⟨i + 1, _, by omega, rfl, by go_num, by rw [HSTEP.out]; exact S9⟩
          case measure => simp [intOf]; omega
        case true =>
          rw [hac2] at z0
          rw [hm1] at S
          have hbn : -9223372036854775808 ≤ (-1 : Int) ∧ (-1 : Int) ≤ 9223372036854775807 := by decide
          have hF : preMove r n mv s2 = ⟨-1, mv.dir⟩ := by unfold preMove; rw [if_pos hto, if_neg (fun e => by rw [hac2] at e; cases e.2), ← hm1]
          have HSTEP := HS
          rw [hF] at HSTEP
          clear hF HS hac2
          have SB := ((S.alloc (cs := #[.int .i64 (-1), .int .i64 mv.dir]) (ty := 93)).move (x := (-1 : Int)) (y := mv.dir) hbn hbd).sel [3, 0, 4, 5, 6, 7, 8]
          have b0 := (S.blk 0 rfl).cell 0 rfl
          have b1 := (S.blk 0 rfl).cell 1 rfl
          have bf := (S.blk 0 rfl).free
          clear S
          go_wp2_with (at_builtin; refine st1_MoveS SB rfl rfl rfl rfl cell_a1 (one_mem2 rfl rfl) hll ?_; intro ja jn jc w9 S9)
          go_roundw
          case rel => exact ⟨i + 1, _, by omega, rfl, by go_num, by rw [HSTEP.out]; exact S9⟩
          case measure => simp [intOf]; omega

end Go.Proofs.YtcifdkliiljmkaaGreatDoor
