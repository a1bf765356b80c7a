/-
  RotatorTurner of the reference (written by a program of this claim's own, gen_rotturn.py).
-/
import Derived.Test.YtmdcoekpmiphjaaRotTurnDef
namespace Go.Proofs.Ytmdcoekpmiphjaa
open Go.RowKit

set_option maxHeartbeats 8000000 in
set_option maxRecDepth 100000 in
theorem specRotatorTurner_is (x : Turner × Int) (cs : List Value) (r : Rot) (B : Nat) (w : World) (hB0 : B ≤ w.heap.size) (h : rotsE.rd w B cs r) (hx : rotatorTurner r = x) :
    Calls Try.prog 17 #[.agg cs.toArray] w (MakesC turnE x w) := by
  have HX := Lib.hid hx
  have RA := Lib.hid h
  obtain ⟨v2, v3, rfl, b1, b2, h2, h3⟩ := rd_Rot h
  obtain ⟨pa, pc, rfl, p1, p2, -, e2⟩ := rd_slice1 rfl h2
  obtain ⟨qa, qc, rfl, q1, q2, -, e3⟩ := rd_ints h3
  obtain ⟨pn, hpn⟩ : ∃ n, n = r.next.length := ⟨_, rfl⟩
  obtain ⟨qn, hqn⟩ : ∃ n, n = r.fin.length := ⟨_, rfl⟩
  rw [← hqn, ← hpn] at RA ⊢
  rw [← hpn] at p1 e2 h2
  rw [← hqn] at q1 e3
  have HP := Lib.hid hpn
  have HQ := Lib.hid hqn
  have R2 := Lib.hid h2
  have E2 := Lib.hid e2
  have E3 := Lib.hid e3
  clear hx h h2 h3 hpn hqn e2 e3
  have S := ((Star.nil w).alloc (cs := #[.int .i64 r.letters, .int .i64 r.start, .slice pa pn pc, .slice qa qn qc]) (ty := 44)).alloc (cs := #[.int .i64 0, .int .i64 0, .slice none 0 0]) (ty := 24)
  rw [World.size_alloc] at S
  go_enter Try.func17, Try.ntmps17
  go_wp2_with fail
  generalize hW : (w.alloc _).alloc _ = w0 at S ⊢
  clear hW
  replace S : Star w w0 [oB (w.heap.size + 1) [.int .i64 0, .int .i64 0, .slice none 0 0] 24, oB w.heap.size [.int .i64 r.letters, .int .i64 r.start, .slice pa pn pc, .slice qa qn qc] 44] := S
  refine (l06Ok_any _ _ r B _ (Nat.le_trans hB0 S.below.size) (rotsE.rd_of (S.below.mono hB0) RA.out) (fun i v hv => (S.blk 1 rfl).cell i hv)).mono ?_
  rintro e w1 ⟨rfl, b⟩
  replace S := S.step b
  clear b
  have A0 := S.blk 1 rfl
  have d0 := A0.cell 0 rfl
  have d1 := A0.cell 1 rfl
  have d2 := A0.cell 2 rfl
  have d3 := A0.cell 3 rfl
  cases h1 : validRot r
  case false =>
    have R0 := S.blk 0 rfl
    have c0 := R0.cell 0 rfl
    have c1 := R0.cell 1 rfl
    have c2 := R0.cell 2 rfl
    have f0 := R0.free
    go_wp2
    generalize hW : ((w1.setCell _ _).setCell _ _).setCell _ _ = w3
    replace S := S.set3 rfl hW
    have A3 := S.blk 0 rfl
    have q0 := A3.cell 0 rfl
    have q1 := A3.cell 1 rfl
    have q2 := A3.cell 2 rfl
    obtain rfl : x = (default, 1) := by rw [← HX.out]; unfold rotatorTurner; rw [h1]; rfl
    exact bodyPost_ret (v := .tuple #[.agg #[.int .i64 0, .int .i64 0, .slice none 0 0], .int .i64 1]) (by simp [results, Try.results17, go_sem, q0, q1, q2]) rfl (S.flat (ow_Turner_zero _)).done
  have K := rotOk h1
  have HX : Hid (x = (⟨r.letters, r.start, (List.range pn).map (rotRow1 r) ++ (List.range pn).map (rotRow2 r.letters.toNat pn)⟩, 0)) := Lib.hid (by rw [← HX.out]; unfold rotatorTurner; rw [h1, HP.out]; rfl)
  have KH := Lib.hid K
  have hpn6 : pn ≤ 6 := by have := K.n6; have := HP.out; omega
  obtain ⟨L, hL⟩ : ∃ L : Nat, r.letters = L := ⟨r.letters.toNat, by have := K.l1; omega⟩
  have hL3 : L ≤ 3 := by have := K.l3; omega
  have hL1 : 1 ≤ L := by have := K.l1; omega
  have HL := Lib.hid hL
  clear K h1 hL
  generalize hw2 : w1 = w2 at S d0 d1 d2 d3 ⊢
  clear hw2
  have e0 := (S.blk 1 rfl).cell 0 rfl
  have e1 := (S.blk 1 rfl).cell 1 rfl
  have e2 := (S.blk 1 rfl).cell 2 rfl
  have ea := fun o => cell_al e2 o
  replace S := ((S.alloc (cs := #[.int .i64 r.letters, .int .i64 r.start, .slice none 0 0]) (ty := 24)).nils movesE 51).sel [1, 2, 3, 0]
  go_wp2
  generalize hW : w2.alloc _ = wa at S ⊢
  clear hW e0 e1 e2 ea
  go_loopw [6] (fun q wr => ∃ k : Nat, ∃ vm, k ≤ pn ∧ q = .int .i64 k ∧ Star w wr [oB w2.heap.size [.int .i64 r.letters, .int .i64 r.start, vm] 24, oB (w.heap.size + 1) [.int .i64 0, .int .i64 0, .slice none 0 0] 24, oB w.heap.size [.int .i64 r.letters, .int .i64 r.start, .slice pa pn pc, .slice qa qn qc] 44, oE movessE [vm] (((List.range pn).map (rotRow1 r)).take k)]) (fun q _ => pn - (intOf q).toNat)
  case atStart => exact ⟨0, _, by omega, rfl, by simpa using S⟩
  case round =>
    clear S
    obtain ⟨k, vm, hk, rfl, S⟩ := hrel
    obtain ⟨ma, mn, mc, rfl⟩ := S.slc 3 rfl
    by_cases hlt : k < pn
    case neg =>
      obtain rfl : pn = k := by omega
      have ht := take_range_all (rotRow1 r) pn
      rw [ht] at S
      clear ht
      go_wp2
      go_loopw [9] (fun q wr => ∃ k : Nat, ∃ vm, k ≤ pn ∧ q = .int .i64 k ∧ Star w wr [oB w2.heap.size [.int .i64 r.letters, .int .i64 r.start, vm] 24, oB (w.heap.size + 1) [.int .i64 0, .int .i64 0, .slice none 0 0] 24, oB w.heap.size [.int .i64 r.letters, .int .i64 r.start, .slice pa pn pc, .slice qa qn qc] 44, oE movessE [vm] ((List.range pn).map (rotRow1 r) ++ ((List.range pn).map (rotRow2 L pn)).take k)]) (fun q _ => pn - (intOf q).toNat)
      case atStart => exact ⟨0, _, by omega, rfl, by simpa using S⟩
      case round =>
        clear S
        obtain ⟨k, vm, hk, rfl, S⟩ := hrel
        obtain ⟨ma, mn, mc, rfl⟩ := S.slc 3 rfl
        by_cases hlt : k < pn
        case neg =>
          obtain rfl : pn = k := by omega
          have ht2 := take_range_all (rotRow2 L pn) pn
          rw [ht2] at S
          clear ht2
          have X0 := S.blk 0 rfl
          have c0 := X0.cell 0 rfl
          have c1 := X0.cell 1 rfl
          have c2 := X0.cell 2 rfl
          have R0 := S.blk 1 rfl
          have f0 := R0.cell 0 rfl
          have f1 := R0.cell 1 rfl
          have f2 := R0.cell 2 rfl
          have ff := R0.free
          go_wp2
          generalize hW : ((wr.setCell _ _).setCell _ _).setCell _ _ = w5
          have S5 := (S.sel [1, 3]).set3 rfl hW
          have A3 := S5.blk 0 rfl
          have q0 := A3.cell 0 rfl
          have q1 := A3.cell 1 rfl
          have q2 := A3.cell 2 rfl
          have S6 := ((S5.int b2).int b1).sel [0, 1, 3]
          obtain rfl := HX.out
          have hLn : r.letters.toNat = L := by have := HL.out; omega
          exact bodyPost_ret (v := .tuple #[.agg #[.int .i64 r.letters, .int .i64 r.start, .slice ma mn mc], .int .i64 0]) (by simp [results, Try.results17, go_sem, q0, q1, q2]) rfl (turn_done (x := ⟨r.letters, r.start, (List.range pn).map (rotRow1 r) ++ (List.range pn).map (rotRow2 r.letters.toNat pn)⟩) (by rw [hLn]; exact S6))
        have hT := take_range_map (rotRow2 L pn) pn k hlt
        have HT := Lib.hid hT; clear hT
        have hll : ((List.range pn).map (rotRow1 r) ++ ((List.range pn).map (rotRow2 L pn)).take k).length ≤ 1000000000000 := by have := List.length_take_le k ((List.range pn).map (rotRow2 L pn)); rw [List.length_append, List.length_map, List.length_range]; omega
        have wn : IntKind.i64.wrap ((pn : Int) + (k : Int)) = (pn : Int) + (k : Int) := IntWalk.i64_in _ ⟨by omega, by omega⟩
        have bk : -9223372036854775808 ≤ (k : Int) ∧ (k : Int) ≤ 9223372036854775807 := ⟨by omega, by omega⟩
        have bn : -9223372036854775808 ≤ (pn : Int) + (k : Int) ∧ (pn : Int) + (k : Int) ≤ 9223372036854775807 := ⟨by omega, by omega⟩
        have y0 := (S.blk 2 rfl).cell 0 rfl
        replace S := (S.alloc (cs := #[]) (ty := 50)).lit0 (α := Move) (E := moveE)
        go_wp2
        generalize hW : wr.alloc _ = wb at S ⊢
        clear hW y0
        go_loopw [10, 11] (fun vs q wr => ∃ c : Nat, ∃ vr, c ≤ L ∧ vs = vr ∧ q = .int .i64 c ∧ Star w wr [oE movesE [vr] (List.replicate c ⟨(pn : Int) + (k : Int), -1⟩), oB w2.heap.size [.int .i64 r.letters, .int .i64 r.start, .slice ma mn mc] 24, oB (w.heap.size + 1) [.int .i64 0, .int .i64 0, .slice none 0 0] 24, oB w.heap.size [.int .i64 r.letters, .int .i64 r.start, .slice pa pn pc, .slice qa qn qc] 44, oE movessE [.slice ma mn mc] ((List.range pn).map (rotRow1 r) ++ ((List.range pn).map (rotRow2 L pn)).take k)]) (fun _ q _ => L - (intOf q).toNat)
        case atStart => exact ⟨0, _, by omega, rfl, rfl, S⟩
        case round =>
          clear S
          obtain ⟨c, vr, hcc, rfl, rfl, S⟩ := hrel
          obtain ⟨va, vn, vc, rfl⟩ := S.slc 0 rfl
          have y0 := (S.blk 3 rfl).cell 0 rfl
          by_cases hcm : c < L
          case neg =>
            have hcl : ¬ (c : Int) < r.letters := by have := HL.out; omega
            obtain rfl : L = c := by omega
            have hlr : (List.replicate L (⟨(pn : Int) + (k : Int), -1⟩ : Move)).length + 2 ≤ 1000000000000 := by simp; omega
            have SA := (S.alloc (cs := #[.int .i64 (k : Int), .int .i64 1, .int .i64 (-2), .int .i64 0]) (ty := 50)).sel [1, 2, 3, 4, 5]
            go_wp2_with (first
              | (at_builtin
                 refine stS_MoveS (ys := [⟨k, 1⟩, ⟨-2, 0⟩]) SA rfl rfl rfl (all2 (ow_move bk bd1 _) (ow_move ⟨by omega, by omega⟩ bd0 _)) rfl (src_cells rfl cell_a1 (one_ints [(k : Int), 1, -2, 0])) hlr ?_
                 intro ta tn tc w8 S8
                 have x8 := (S8.blk 1 rfl).cell 2 rfl
                 have SC := (S8.alloc (cs := #[.slice ta tn tc]) (ty := 51)).sel [5, 1, 2, 3, 4])
              | (at_builtin
                 refine st1_MoveSS SC rfl rfl rfl rfl cell_a1 (one_mem rfl) hll ?_
                 intro ua un uc w9 S9
                 have x9 := (S9.blk 1 rfl).cell 2 rfl
                 have cf := (S9.blk 1 rfl).free))
            go_roundw
            case rel => exact ⟨k + 1, _, by omega, by go_num, by rw [HT.out, ← List.append_assoc]; exact (S9.sel [1, 2, 3, 0]).set 2 (.slice ua un uc)⟩
            case measure => simp [intOf]; omega
          have hcl : (c : Int) < r.letters := by have := HL.out; omega
          have hlm : (List.replicate c (⟨(pn : Int) + (k : Int), -1⟩ : Move)).length ≤ 1000000000000 := by simp; omega
          have SA := ((S.alloc (cs := #[.int .i64 ((pn : Int) + (k : Int)), .int .i64 (-1)]) (ty := 50)).move (x := (pn : Int) + (k : Int)) (y := -1) bn bdm1).sel [2, 0, 3, 4, 5, 6]
          go_wp2_with (at_builtin; refine st1_MoveS SA rfl rfl rfl rfl cell_a1 (one_mem2 rfl rfl) hlm ?_; intro za zn zc w9 S9)
          rw [← List.replicate_succ'] at S9
          go_roundw
          case rel => first | exact ⟨c + 1, by omega, by go_num, S9⟩ | exact ⟨c + 1, _, by omega, rfl, by go_num, S9⟩
          case measure => simp [intOf]; omega
    obtain ⟨bb, oo, vk, rfl, -, hc, hr⟩ := E2.out k hlt
    have hlk : k < r.next.length := by rw [← HP.out]; exact hlt
    have hget : r.next[k]?.getD default = r.next[k] := by simp [List.getElem?_eq_getElem hlk]
    have hget' : r.next[k]?.getD [] = r.next[k] := by simp [List.getElem?_eq_getElem hlk]
    rw [hget] at hr
    obtain ⟨hlen, hbd⟩ := KH.out.row _ (List.getElem_mem hlk)
    have hqk : k < qn := by have := KH.out.fl; have := HP.out; have := HQ.out; omega
    obtain ⟨fb, fo, rfl, -, hfc, -, -⟩ := E3.out k hqk
    have hfk : k < r.fin.length := by rw [← HQ.out]; exact hqk
    have hfget : r.fin[k]?.getD 0 = r.fin[k] := by simp [List.getElem?_eq_getElem hfk]
    have hfb := KH.out.fin _ (List.getElem_mem hfk)
    have hrow1 : rotRow1 r k = r.next[k].map rotMove ++ [⟨k, 1⟩, rotEnd pn r.fin[k]] := by unfold rotRow1; rw [hget', hfget, ← HP.out]
    rw [hfget] at hfc
    obtain ⟨e, hee⟩ : ∃ e, e = r.fin[k] := ⟨_, rfl⟩
    obtain ⟨row, hrow⟩ : ∃ x, x = r.next[k] := ⟨_, rfl⟩
    rw [← hrow] at hr hlen hbd hrow1
    rw [← hee] at hfc hfb hrow1
    obtain ⟨ja, jc, rfl, j1, j2, -, e5⟩ := rd_ints hr
    obtain ⟨m, hm⟩ : ∃ m, m = row.length := ⟨_, rfl⟩
    rw [← hm] at j1 e5 hlen hc
    have hmL : m = L := by have := HL.out; omega
    have hpp := HP.out
    have hT := take_range_map (rotRow1 r) pn k hlt
    have HT : Hid (((List.range pn).map (rotRow1 r)).take (k + 1) = ((List.range pn).map (rotRow1 r)).take k ++ [row.map rotMove ++ [⟨k, 1⟩, rotEnd pn e]]) := Lib.hid (by rw [hT, hrow1])
    rw [← hpp] at hbd hfb
    have E5 := Lib.hid e5
    have HBD := Lib.hid hbd
    have HM := Lib.hid hm
    have HC := Lib.hid hc
    have HF := Lib.hid hfc
    have HML := Lib.hid hmL
    have g1 := (S.below.cell (World.block_lt_of_cell? w _ hc)).trans hc
    have hll : (((List.range pn).map (rotRow1 r)).take k).length ≤ 1000000000000 := by have := List.length_take_le k ((List.range pn).map (rotRow1 r)); omega
    clear hc hr hget hget' hfget hrow hee e5 hbd hm hfc hT hrow1 hpp hmL
    have y2 := (S.blk 2 rfl).cell 2 rfl
    have y0 := (S.blk 2 rfl).cell 0 rfl
    replace S := (S.alloc (cs := #[]) (ty := 50)).lit0 (α := Move) (E := moveE)
    go_wp2
    generalize hW : wr.alloc _ = wb at S ⊢
    clear hW g1 y2 y0
    go_loopw [7, 8] (fun vs q wr => ∃ c : Nat, ∃ vr, c ≤ m ∧ vs = vr ∧ q = .int .i64 c ∧ Star w wr [oE movesE [vr] ((row.take c).map rotMove), oB w2.heap.size [.int .i64 r.letters, .int .i64 r.start, .slice ma mn mc] 24, oB (w.heap.size + 1) [.int .i64 0, .int .i64 0, .slice none 0 0] 24, oB w.heap.size [.int .i64 r.letters, .int .i64 r.start, .slice (some ⟨bb, oo, none⟩) pn pc, .slice (some ⟨fb, fo, none⟩) qn qc] 44, oE movessE [.slice ma mn mc] (((List.range pn).map (rotRow1 r)).take k)]) (fun _ q _ => m - (intOf q).toNat)
    case atStart => exact ⟨0, _, by omega, rfl, rfl, S⟩
    case round =>
      clear S
      obtain ⟨c, vr, hcc, rfl, rfl, S⟩ := hrel
      obtain ⟨va, vn, vc, rfl⟩ := S.slc 0 rfl
      have y0 := (S.blk 3 rfl).cell 0 rfl
      have y2 := (S.blk 3 rfl).cell 2 rfl
      have y3 := (S.blk 3 rfl).cell 3 rfl
      have g1 := (S.below.cell (World.block_lt_of_cell? w _ HC.out)).trans HC.out
      have g3 := (S.below.cell (World.block_lt_of_cell? w _ HF.out)).trans HF.out
      by_cases hcm : c < m
      case neg =>
        have hcl : ¬ (c : Int) < r.letters := by have := HL.out; have := HML.out; omega
        obtain rfl : m = c := by omega
        have ht : row.take m = row := List.take_of_length_le (by rw [HM.out]; exact Nat.le_refl _)
        rw [ht] at S
        clear ht
        have hlr : (row.map rotMove).length + 2 ≤ 1000000000000 := by rw [List.length_map]; have := HM.out; have := HML.out; omega
        have hlr1 : (row.map rotMove).length ≤ 1000000000000 := by omega
        have hlr2 : (row.map rotMove ++ [(⟨k, 1⟩ : Move)]).length ≤ 1000000000000 := by rw [List.length_append]; exact Nat.le_trans (by simp; rw [List.length_map] at hlr; omega) (Nat.le_refl _)
        have bk : -9223372036854775808 ≤ (k : Int) ∧ (k : Int) ≤ 9223372036854775807 := ⟨by omega, by omega⟩
        have be : -9223372036854775808 ≤ e ∧ e ≤ 9223372036854775807 := ⟨by omega, by omega⟩
        have ben : -9223372036854775808 ≤ e + (pn : Int) ∧ e + (pn : Int) ≤ 9223372036854775807 := ⟨by omega, by omega⟩
        have SA := ((S.alloc (cs := #[.int .i64 (k : Int), .int .i64 1]) (ty := 50)).move (x := (k : Int)) (y := 1) bk bd1).sel [2, 0, 3, 4, 5, 6]
        by_cases he : e < 0
        case pos =>
          have t1 : decide (e < 0) = true := by simp; omega
          have hv : rotEnd pn e = ⟨e, 0⟩ := if_pos he
          have HV := Lib.hid hv; clear hv
          go_wp2_with (first
            | (at_builtin
               refine st1_MoveS SA rfl rfl rfl rfl cell_a1 (one_mem2 rfl rfl) hlr1 ?_
               intro za zn zc w7 S7
               have y0 := (S7.blk 3 rfl).cell 0 rfl
               have y2 := (S7.blk 3 rfl).cell 2 rfl
               have y3 := (S7.blk 3 rfl).cell 3 rfl
               have g3 := (S7.below.cell (World.block_lt_of_cell? w _ HF.out)).trans HF.out
               have SB := ((S7.alloc (cs := #[.int .i64 e, .int .i64 0]) (ty := 50)).move (x := e) (y := 0) be bd0).sel [2, 0, 3, 4, 5, 6])
            | (at_builtin
               refine st1_MoveS SB rfl rfl rfl rfl cell_a1 (one_mem2 rfl rfl) hlr2 ?_
               intro ta tn tc w8 S8
               have x8 := (S8.blk 1 rfl).cell 2 rfl
               have SC := (S8.alloc (cs := #[.slice ta tn tc]) (ty := 51)).sel [5, 1, 2, 3, 4])
            | (at_builtin
               refine st1_MoveSS SC rfl rfl rfl rfl cell_a1 (one_mem rfl) hll ?_
               intro ua un uc w9 S9
               have x9 := (S9.blk 1 rfl).cell 2 rfl
               have cf := (S9.blk 1 rfl).free))
          have S10 := S9
          rw [List.append_assoc (row.map rotMove)] at S10
          go_roundw
          case rel => exact ⟨k + 1, _, by omega, by go_num, by rw [HT.out, HV.out]; exact (S10.sel [1, 2, 3, 0]).set 2 (.slice ua un uc)⟩
          case measure => simp [intOf]; omega
        case neg =>
          have t1 : decide (e < 0) = false := by simp; omega
          have we : IntKind.i64.wrap ((pn : Int) + e) = e + (pn : Int) := by rw [Int.add_comm]; exact IntWalk.i64_in _ ben
          have hv : rotEnd pn e = ⟨e + pn, -1⟩ := if_neg he
          have HV := Lib.hid hv; clear hv
          go_wp2_with (first
            | (at_builtin
               refine st1_MoveS SA rfl rfl rfl rfl cell_a1 (one_mem2 rfl rfl) hlr1 ?_
               intro za zn zc w7 S7
               have y0 := (S7.blk 3 rfl).cell 0 rfl
               have y2 := (S7.blk 3 rfl).cell 2 rfl
               have y3 := (S7.blk 3 rfl).cell 3 rfl
               have g3 := (S7.below.cell (World.block_lt_of_cell? w _ HF.out)).trans HF.out
               have SB := ((S7.alloc (cs := #[.int .i64 (e + (pn : Int)), .int .i64 (-1)]) (ty := 50)).move (x := (e + (pn : Int))) (y := (-1)) ben bdm1).sel [2, 0, 3, 4, 5, 6])
            | (at_builtin
               refine st1_MoveS SB rfl rfl rfl rfl cell_a1 (one_mem2 rfl rfl) hlr2 ?_
               intro ta tn tc w8 S8
               have x8 := (S8.blk 1 rfl).cell 2 rfl
               have SC := (S8.alloc (cs := #[.slice ta tn tc]) (ty := 51)).sel [5, 1, 2, 3, 4])
            | (at_builtin
               refine st1_MoveSS SC rfl rfl rfl rfl cell_a1 (one_mem rfl) hll ?_
               intro ua un uc w9 S9
               have x9 := (S9.blk 1 rfl).cell 2 rfl
               have cf := (S9.blk 1 rfl).free))
          have S10 := S9
          rw [List.append_assoc (row.map rotMove)] at S10
          go_roundw
          case rel => exact ⟨k + 1, _, by omega, by go_num, by rw [HT.out, HV.out]; exact (S10.sel [1, 2, 3, 0]).set 2 (.slice ua un uc)⟩
          case measure => simp [intOf]; omega
      have hcl : (c : Int) < r.letters := by have := HL.out; have := HML.out; omega
      obtain ⟨sb, so, rfl, -, hc5, -, -⟩ := E5.out c hcm
      have hlc : c < row.length := by rw [← HM.out]; exact hcm
      have hx := HBD.out _ (List.getElem_mem hlc)
      have hg5 : row[c]?.getD 0 = row[c] := by simp [List.getElem?_eq_getElem hlc]
      rw [hg5] at hc5
      have g2 := (S.below.cell (World.block_lt_of_cell? w _ hc5)).trans hc5
      have htc : (row.take (c + 1)).map rotMove = (row.take c).map rotMove ++ [rotMove row[c]] := by rw [List.take_succ_eq_append_getElem hlc, List.map_append]; rfl
      obtain ⟨x', hxx⟩ : ∃ x, x = row[c] := ⟨_, rfl⟩
      rw [← hxx] at hx g2 htc
      have HTC := Lib.hid htc
      clear hg5 hc5 htc hxx
      have hlm : ((row.take c).map rotMove).length ≤ 1000000000000 := by rw [List.length_map]; have := List.length_take_le c row; have := HML.out; omega
      have SA := ((S.alloc (cs := #[.int .i64 x', .int .i64 1]) (ty := 50)).move (x := x') (y := 1) ⟨by omega, by omega⟩ bd1).sel [2, 0, 3, 4, 5, 6]
      go_wp2_with (at_builtin; refine st1_MoveS SA rfl rfl rfl rfl cell_a1 (one_mem2 rfl rfl) hlm ?_; intro za zn zc w9 S9)
      go_roundw
      case rel => first | exact ⟨c + 1, by omega, by go_num, by rw [HTC.out]; exact S9⟩ | exact ⟨c + 1, _, by omega, rfl, by go_num, by rw [HTC.out]; exact S9⟩
      case measure => simp [intOf]; omega

end Go.Proofs.Ytmdcoekpmiphjaa
