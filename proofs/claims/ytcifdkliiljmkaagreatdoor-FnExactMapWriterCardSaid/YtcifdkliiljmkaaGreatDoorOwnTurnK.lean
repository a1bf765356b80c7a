/-
  The program's ownTurner: a turner in new memory ('changed' with the identity).
-/
import Derived.Test.YtcifdkliiljmkaaGreatDoorJoinAidK
import Derived.Test.YtcifdkliiljmkaaGreatDoorPackA
namespace Go.Proofs.YtcifdkliiljmkaaGreatDoor
open Go.RowKit

def ownM (m : Move) : Move := m

set_option maxHeartbeats 1000000 in
theorem ownC_any (m : Move) (w : World) :
    Calls Tryz.prog 82 #[.agg #[.int .i64 m.to, .int .i64 m.dir]] w (Gives (.agg #[.int .i64 (ownM m).to, .int .i64 (ownM m).dir]) w) := by
  have S := ((Star.nil w).alloc (cs := #[.int .i64 m.to, .int .i64 m.dir]) (ty := 93)).alloc (cs := #[.int .i64 0, .int .i64 0]) (ty := 93)
  rw [World.size_alloc] at S
  go_enter Tryz.func82, Tryz.ntmps82
  go_wp2
  have S5 := ((Star.nil w).alloc (cs := #[.int .i64 m.to, .int .i64 m.dir]) (ty := 93)).alloc (cs := #[.int .i64 m.to, .int .i64 m.dir]) (ty := 93)
  rw [World.size_alloc] at S5
  have q0 := (S5.blk 0 rfl).cell 0 rfl
  have q1 := (S5.blk 0 rfl).cell 1 rfl
  exact bodyPost_ret (v := .agg #[.int .i64 m.to, .int .i64 m.dir]) (by simp [results, Tryz.results82, go_sem, q0, q1]) rfl (show Gives _ w _ _ from ⟨rfl, S5.below⟩)

set_option maxHeartbeats 4000000 in
theorem chgOwn_any (x : Turner) (cs : List Value) (r : Turner) (B : Nat) (w : World) (hB0 : B ≤ w.heap.size) (h : turnE.rd w B cs r) (hv : validTurn r = true) (hx : x = ⟨r.letters, r.start, r.moves.map (List.map ownM)⟩) :
    Calls Tryz.prog 81 #[.agg cs.toArray, .func (.func 82) #[] #[]] w (MakesS turnE id x w) := by
  have HX := Lib.hid hx
  have K := turnOk_of hv
  have k0 : -9223372036854775808 ≤ r.letters ∧ r.letters ≤ 9223372036854775807 := by have := K.l1; have := K.l3; omega
  have k1 : -9223372036854775808 ≤ r.start ∧ r.start ≤ 9223372036854775807 := by have := K.s0; have := K.s1; have := K.n12; omega
  obtain ⟨v2, rfl, -, -, h2⟩ := rd_Turner h
  obtain ⟨ta, tc, rfl, q1, q2, -, q4⟩ := rd_slice1 rfl h2
  obtain ⟨m, hm⟩ : ∃ m, m = r.moves.length := ⟨_, rfl⟩
  have hm12 : m ≤ 12 := by rw [hm]; exact K.n12
  rw [← hm] at q1 q4 ⊢
  have HK := Lib.hid K; have HM := Lib.hid hm; have Q4 := Lib.hid q4
  clear K h h2 hv hx hm q4
  have S := ((Star.nil w).alloc (cs := #[.int .i64 r.letters, .int .i64 r.start, .slice ta m tc]) (ty := 36)).alloc (cs := #[.int .i64 0, .int .i64 0, .slice none 0 0]) (ty := 36)
  rw [World.size_alloc] at S
  replace S := S.alloc (cs := #[.int .i64 r.letters, .int .i64 r.start, .slice none 0 0]) (ty := 36)
  rw [World.size_alloc, World.size_alloc] at S
  go_enter Tryz.func81, Tryz.ntmps81
  go_wp2
  generalize hW : ((w.alloc _).alloc _).alloc _ = w0 at S ⊢
  clear hW
  replace S := (S.nils movesE 91).sel [1, 2, 0]
  go_loopw [19] (fun q wr => ∃ (j : Nat) (vm : Value), j ≤ m ∧ q = .int .i64 j ∧ Star w wr [oB (w.heap.size + 1 + 1) [.int .i64 r.letters, .int .i64 r.start, vm] 36, oB (w.heap.size + 1) [.int .i64 0, .int .i64 0, .slice none 0 0] 36, oE movessE [vm] ((r.moves.take j).map (List.map ownM))]) (fun q _ => m - (intOf q).toNat)
  case atStart => exact ⟨0, _, by omega, rfl, S⟩
  case round =>
    clear S
    obtain ⟨j, vm, hj, rfl, S⟩ := hrel
    obtain ⟨ua, un, uc, rfl⟩ := S.slc 2 rfl
    by_cases hlt : j < m
    case neg =>
      obtain rfl : m = j := by omega
      have x0 := (S.blk 0 rfl).cell 0 rfl
      have x1 := (S.blk 0 rfl).cell 1 rfl
      have x2 := (S.blk 0 rfl).cell 2 rfl
      have R0 := S.blk 1 rfl
      have f0 := R0.cell 0 rfl
      have f1 := R0.cell 1 rfl
      have f2 := R0.cell 2 rfl
      have ff := R0.free
      go_wp2
      generalize hW : ((wr.setCell _ _).setCell _ _).setCell _ _ = w5
      have S5 := (S.sel [1, 2]).set3 rfl hW
      have A3 := S5.blk 0 rfl
      have q0 := A3.cell 0 rfl
      have q1 := A3.cell 1 rfl
      have q2 := A3.cell 2 rfl
      have S6 := ((S5.int k1).int k0).sel [0, 1, 3]
      obtain rfl := HX.out
      have hfull : r.moves.map (List.map ownM) = (r.moves.take m).map (List.map ownM) := by rw [HM.out, List.take_length]
      rw [hfull]
      exact bodyPost_ret (v := .agg #[.int .i64 r.letters, .int .i64 r.start, .slice ua un uc]) (by simp [results, Tryz.results81, go_sem, q0, q1, q2]) rfl (turn_made (x := ⟨r.letters, r.start, (r.moves.take m).map (List.map ownM)⟩) S6)
    obtain ⟨rb, ro, vk, rfl, -, hrc, hrd⟩ := Q4.out j hlt
    have hmem := mem_getD (l := r.moves) (k := j) (by rw [← HM.out]; exact hlt)
    have hst : (r.moves.take (j + 1)).map (List.map ownM) = (r.moves.take j).map (List.map ownM) ++ [(r.moves[j]?.getD default).map ownM] := by
      have hj2 : j < r.moves.length := by rw [← HM.out]; exact hlt
      rw [List.take_succ_eq_append_getElem hj2, List.map_append, List.getElem?_eq_getElem hj2]
      rfl
    have hrow := (HK.out.row _ hmem).2
    obtain ⟨row, hrow2⟩ : ∃ y, y = r.moves[j]?.getD default := ⟨_, rfl⟩
    rw [← hrow2] at hrd hrow hst
    obtain ⟨ma, mc, rfl, m1, m2, -, m4⟩ := rd_movesE hrd
    obtain ⟨rl, hrl⟩ : ∃ y, y = row.length := ⟨_, rfl⟩
    rw [← hrl] at m1 m4 hrc
    have hr5 : rl ≤ 5 := by rw [hrl, hrow2]; exact HK.out.len hmem
    have HST := Lib.hid hst; have HROW := Lib.hid hrow; have M4 := Lib.hid m4; have HRL := Lib.hid hrl
    have BW := S.below
    have cr := (BW.cell (World.block_lt_of_cell? w _ hrc)).trans hrc
    clear hmem hst hrow hrow2 hrd m4 hrl hrc BW
    replace S := ((S.alloc (cs := #[]) (ty := 93)).lit0 (α := Move) (E := moveE))
    go_wp2
    generalize hW : wr.alloc _ = w6 at S ⊢
    clear hW cr
    obtain ⟨g6, hg6⟩ : ∃ g, g = wr.heap.size := ⟨_, rfl⟩
    rw [← hg6] at S ⊢
    clear hg6
    go_loopw [8, 26] (fun vl q wr => ∃ (i : Nat) (v : Value), i ≤ rl ∧ vl = v ∧ q = .int .i64 i ∧ Star w wr [oE movesE [v] ((row.take i).map ownM), oB (w.heap.size + 1 + 1) [.int .i64 r.letters, .int .i64 r.start, .slice ua un uc] 36, oB (w.heap.size + 1) [.int .i64 0, .int .i64 0, .slice none 0 0] 36, oE movessE [.slice ua un uc] ((r.moves.take j).map (List.map ownM))]) (fun _ q _ => rl - (intOf q).toNat)
    case atStart => exact ⟨0, _, by omega, rfl, rfl, S⟩
    case round =>
      clear S
      obtain ⟨i, v, hi, rfl, rfl, S⟩ := hrel
      obtain ⟨la, ln, lc, rfl⟩ := S.slc 0 rfl
      by_cases hil : i < rl
      case neg =>
        obtain rfl : rl = i := by omega
        have hfull : row.take rl = row := by rw [HRL.out]; exact List.take_length
        rw [hfull] at S
        have hlm : ((r.moves.take j).map (List.map ownM)).length ≤ 1000000000000 := by
          rw [List.length_map, List.length_take]; omega
        have x2 := (S.blk 1 rfl).cell 2 rfl
        have SC := (S.alloc (cs := #[.slice la ln lc]) (ty := 91)).sel [4, 1, 2, 3]
        go_wp2_with (at_builtin; refine st1_MoveSS SC rfl rfl rfl rfl cell_a1 (one_mem rfl) hlm ?_; intro ja jn jc w9 S9; have x9 := (S9.blk 1 rfl).cell 2 rfl; have cf := (S9.blk 1 rfl).free)
        go_roundw
        case rel => exact ⟨j + 1, _, by omega, by go_num, by rw [HST.out]; exact (S9.sel [1, 2, 0]).set 2 (.slice ja jn jc)⟩
        case measure => simp [intOf]; omega
      obtain ⟨sb, so, rfl, -, ⟨hm0, hm1⟩, -⟩ := M4.out i hil
      have hok := moveOk_bdj (HROW.out i (by rw [← HRL.out]; exact hil))
      have hst2 : (row.take (i + 1)).map ownM = (row.take i).map ownM ++ [ownM (row[i]?.getD default)] := by
        have hi2 : i < row.length := by rw [← HRL.out]; exact hil
        rw [List.take_succ_eq_append_getElem hi2, List.map_append, List.getElem?_eq_getElem hi2]
        rfl
      have hll : ((row.take i).map ownM).length ≤ 1000000000000 := by rw [List.length_map, List.length_take]; omega
      obtain ⟨mv, hmv⟩ : ∃ y, y = row[i]?.getD default := ⟨_, rfl⟩
      rw [← hmv] at hm0 hm1 hok hst2
      rw [← HM.out] at hok
      obtain ⟨⟨ht2, htm⟩, hd1, hd2⟩ := hok
      have hbt : -2 ≤ mv.to ∧ mv.to ≤ 100 := ⟨by omega, by omega⟩
      have hbd : -1 ≤ mv.dir ∧ mv.dir ≤ 1 := ⟨hd1, hd2⟩
      have HS2 := Lib.hid hst2
      have BW := S.below
      have q0 := (BW.cell (World.block_lt_of_cell? w _ hm0)).trans hm0
      have q1 := (BW.cell (World.block_lt_of_cell? w _ hm1)).trans hm1
      clear hm0 hm1 hst2 hmv BW
      replace S := S.alloc (cs := #[.int .i64 mv.to, .int .i64 mv.dir]) (ty := 93)
      go_wp2_with fail
      generalize hW : wr.alloc _ = w7 at S ⊢
      clear hW q0 q1
      have BW := S.below
      refine (ownC_any mv w7).mono ?_
      rintro e w8 ⟨rfl, b8⟩
      replace S := S.step b8
      clear b8 BW
      obtain ⟨nm, hnm⟩ : ∃ y, y = ownM mv := ⟨_, rfl⟩
      have hb3 := (show (-9223372036854775808 ≤ (ownM mv).to ∧ (ownM mv).to ≤ 9223372036854775807) ∧ (-9223372036854775808 ≤ (ownM mv).dir ∧ (ownM mv).dir ≤ 9223372036854775807) from ⟨⟨by show _ ≤ mv.to; omega, by show mv.to ≤ _; omega⟩, ⟨by show _ ≤ mv.dir; omega, by show mv.dir ≤ _; omega⟩⟩)
      rw [← hnm] at hb3 ⊢
      have HSTEP := HS2
      rw [← hnm] at HSTEP
      clear hnm HS2
      have SB := ((S.alloc (cs := #[.int .i64 nm.to, .int .i64 nm.dir]) (ty := 93)).move (x := nm.to) (y := nm.dir) hb3.1 hb3.2).sel [3, 0, 4, 5, 6]
      clear S
      go_wp2_with (at_builtin; refine st1_MoveS SB rfl rfl rfl rfl cell_a1 (one_mem2 rfl rfl) hll ?_; intro ja jn jc w9 S9)
      go_roundw
      case rel => exact ⟨i + 1, _, by omega, rfl, by go_num, by rw [HSTEP.out]; exact S9⟩
      case measure => simp [intOf]; omega

theorem map_ownM (l : List (List Move)) : l.map (List.map ownM) = l := by
  have : (List.map ownM) = (id : List Move → List Move) := by funext x; exact List.map_id x
  rw [this, List.map_id]

set_option maxHeartbeats 2000000 in
theorem ownTurner_any (cs : List Value) (r : Turner) (B : Nat) (w : World) (hB0 : B ≤ w.heap.size) (h : turnE.rd w B cs r) (hv : validTurn r = true) :
    Calls Tryz.prog 56 #[.agg cs.toArray] w (MakesS turnE id r w) := by
  have K := turnOk_of hv
  have k0 : -9223372036854775808 ≤ r.letters ∧ r.letters ≤ 9223372036854775807 := by have := K.l1; have := K.l3; omega
  have k1 : -9223372036854775808 ≤ r.start ∧ r.start ≤ 9223372036854775807 := by have := K.s0; have := K.s1; have := K.n12; omega
  have RA := Lib.hid h
  obtain ⟨v2, rfl, -, -, h2⟩ := rd_Turner h
  obtain ⟨ta, tn, tc, rfl⟩ := rd_slice h2
  clear K h h2
  have S := ((Star.nil w).alloc (cs := #[.int .i64 r.letters, .int .i64 r.start, .slice ta tn tc]) (ty := 36)).alloc (cs := #[.int .i64 0, .int .i64 0, .slice none 0 0]) (ty := 36)
  rw [World.size_alloc] at S
  go_enter Tryz.func56, Tryz.ntmps56
  go_wp2_with fail
  generalize hW : (w.alloc _).alloc _ = w0 at S ⊢
  clear hW
  refine (chgOwn_any ⟨r.letters, r.start, r.moves.map (List.map ownM)⟩ _ r B w0 (Nat.le_trans hB0 S.below.size) (turnE.rd_of (S.below.mono hB0) RA.out) hv rfl).mono ?_
  rw [map_ownM]
  rintro e w1 ⟨cs, fp, rfl, o, nd, lo, b⟩
  obtain ⟨v5, rfl, -, -, o5⟩ := rd_Turner (Enc.rd_ow _ o)
  obtain ⟨ca, cn, cc, rfl⟩ := rd_slice o5
  clear o5 RA
  replace S := (S.made o nd lo b).moves
  clear o nd lo b
  have f0 := (S.blk 1 rfl).cell 0 rfl
  have f1 := (S.blk 1 rfl).cell 1 rfl
  have f2 := (S.blk 1 rfl).cell 2 rfl
  have ff := (S.blk 1 rfl).free
  go_wp2
  generalize hW : ((w1.setCell _ _).setCell _ _).setCell _ _ = w5
  have S5 := (S.sel [1, 0]).set3 rfl hW
  have A3 := S5.blk 0 rfl
  have q0 := A3.cell 0 rfl
  have q1 := A3.cell 1 rfl
  have q2 := A3.cell 2 rfl
  have S6 := ((S5.int k1).int k0).sel [0, 1, 3]
  exact bodyPost_ret (v := .agg #[.int .i64 r.letters, .int .i64 r.start, .slice ca cn cc]) (by simp [results, Tryz.results56, go_sem, q0, q1, q2]) rfl (turn_made (x := r) S6)

end Go.Proofs.YtcifdkliiljmkaaGreatDoor
