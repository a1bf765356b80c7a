/-
  ChgRaise: the program's changed with one closure (written by a program of this claim's own, gen_join.py).
-/
import Derived.Test.YtnkhgfdlehhjmaaDoorJoinAidK
import Derived.Test.YtnkhgfdlehhjmaaDoorPackB
namespace Go.Proofs.YtnkhgfdlehhjmaaDoor
open Go.RowKit

set_option maxHeartbeats 1000000 in
theorem raisC_any (k : Int) (hk : -1 ≤ k ∧ k ≤ 100) (m : Move) (ht : -2 ≤ m.to ∧ m.to ≤ 100) (hd : -1 ≤ m.dir ∧ m.dir ≤ 1) (g : Nat) (w : World) (hg : w.cell? ⟨g, 0, none⟩ = some (.int .i64 k)) :
    Calls Tryd.prog 82 #[.agg #[.int .i64 m.to, .int .i64 m.dir], .pointer (some ⟨g, 0, none⟩)] w (Gives (.agg #[.int .i64 (raisedM k m).to, .int .i64 (raisedM k m).dir]) w) := by
  have S := ((Star.nil w).alloc (cs := #[.int .i64 m.to, .int .i64 m.dir]) (ty := 65)).alloc (cs := #[.int .i64 0, .int .i64 0]) (ty := 65)
  rw [World.size_alloc] at S
  have bw : IntKind.i64.wrap (m.to + k) = m.to + k := IntWalk.i64_in _ ⟨by omega, by omega⟩
  go_enter Tryd.func82, Tryd.ntmps82
  go_wp2_with fail
  generalize hW : (w.alloc _).alloc _ = w0 at S ⊢
  clear hW
  refine (stops_any m w0).mono ?_
  rintro e w1 ⟨rfl, b1⟩
  replace S := S.step b1
  clear b1
  have gl := World.block_lt_of_cell? w _ hg
  have y0 := (S.below.cell gl).trans hg
  have x0 := (S.blk 1 rfl).cell 0 rfl
  have x1 := (S.blk 1 rfl).cell 1 rfl
  have xf := (S.blk 1 rfl).free
  have hne : g ≠ w.heap.size := Nat.ne_of_lt gl
  have R0 := S.blk 0 rfl
  have f0 := R0.cell 0 rfl
  have f1 := R0.cell 1 rfl
  have ff := R0.free
  by_cases h : m.to < 0
  case neg =>
    have tA : decide (m.to < 0) = false := decide_eq_false h
    have e : raisedM k m = ⟨m.to + k, m.dir⟩ := by unfold raisedM; rw [if_neg h]
    go_wp2
    generalize hW : ((w1.setCell _ _).setCell _ _).setCell _ _ = w5
    have S5 : Star w w5 [oB (w.heap.size + 1) [.int .i64 (m.to + k), .int .i64 m.dir] 65, oB w.heap.size [.int .i64 (m.to + k), .int .i64 m.dir] 65] := by rw [← hW]; exact ((((S.sel [1, 0]).set 0 _).sel [1, 0]).set 0 _).set 1 _
    have q0 := (S5.blk 0 rfl).cell 0 rfl
    have q1 := (S5.blk 0 rfl).cell 1 rfl
    exact bodyPost_ret (v := .agg #[.int .i64 (m.to + k), .int .i64 m.dir]) (by simp [results, Tryd.results82, go_sem, q0, q1]) rfl (show Gives _ w _ _ from ⟨by rw [e], S5.below⟩)
  have tA : decide (m.to < 0) = true := decide_eq_true h
  have e : raisedM k m = m := by unfold raisedM; rw [if_pos h]
  go_wp2
  generalize hW : (w1.setCell _ _).setCell _ _ = w5
  have S5 : Star w w5 [oB (w.heap.size + 1) [.int .i64 m.to, .int .i64 m.dir] 65, oB w.heap.size [.int .i64 m.to, .int .i64 m.dir] 65] := by rw [← hW]; exact (S.set 0 _).set 1 _
  have q0 := (S5.blk 0 rfl).cell 0 rfl
  have q1 := (S5.blk 0 rfl).cell 1 rfl
  exact bodyPost_ret (v := .agg #[.int .i64 m.to, .int .i64 m.dir]) (by simp [results, Tryd.results82, go_sem, q0, q1]) rfl (show Gives _ w _ _ from ⟨by rw [e], S5.below⟩)

set_option maxHeartbeats 4000000 in
theorem chgRaise_any (k : Int) (hk : -1 ≤ k ∧ k ≤ 100) (g : Nat) (x : Turner) (cs : List Value) (r : Turner) (B : Nat) (w : World) (hB0 : B ≤ w.heap.size) (h : turnE.rd w B cs r) (hv : validTurn r = true) (hg : w.cell? ⟨g, 0, none⟩ = some (.int .i64 k)) (hx : x = ⟨r.letters, r.start, r.moves.map (List.map (raisedM k))⟩) :
    Calls Tryd.prog 59 #[.agg cs.toArray, .func (.func 82) #[] #[.pointer (some ⟨g, 0, none⟩)]] w (MakesS turnE id x w) := by
  have HX := Lib.hid hx
  have K := turnOk_of hv
  have k0 : -9223372036854775808 ≤ r.letters ∧ r.letters ≤ 9223372036854775807 := by have := K.l1; have := K.l3; omega
  have k1 : -9223372036854775808 ≤ r.start ∧ r.start ≤ 9223372036854775807 := by have := K.s0; have := K.s1; have := K.n12; omega
  obtain ⟨v2, rfl, -, -, h2⟩ := rd_Turner h
  obtain ⟨ta, tc, rfl, q1, q2, -, q4⟩ := rd_slice1 rfl h2
  obtain ⟨m, hm⟩ : ∃ m, m = r.moves.length := ⟨_, rfl⟩
  have hm12 : m ≤ 12 := by rw [hm]; exact K.n12
  rw [← hm] at q1 q4 ⊢
  have HK := Lib.hid K; have HM := Lib.hid hm; have Q4 := Lib.hid q4
  have hgl := World.block_lt_of_cell? w _ hg
  clear K h h2 hv hx hm q4
  have S := ((Star.nil w).alloc (cs := #[.int .i64 r.letters, .int .i64 r.start, .slice ta m tc]) (ty := 32)).alloc (cs := #[.int .i64 0, .int .i64 0, .slice none 0 0]) (ty := 32)
  rw [World.size_alloc] at S
  replace S := S.alloc (cs := #[.int .i64 r.letters, .int .i64 r.start, .slice none 0 0]) (ty := 32)
  rw [World.size_alloc, World.size_alloc] at S
  go_enter Tryd.func59, Tryd.ntmps59
  go_wp2
  generalize hW : ((w.alloc _).alloc _).alloc _ = w0 at S ⊢
  clear hW
  replace S := (S.nils movesE 66).sel [1, 2, 0]
  go_loopw [19] (fun q wr => ∃ (j : Nat) (vm : Value), j ≤ m ∧ q = .int .i64 j ∧ Star w wr [oB (w.heap.size + 1 + 1) [.int .i64 r.letters, .int .i64 r.start, vm] 32, oB (w.heap.size + 1) [.int .i64 0, .int .i64 0, .slice none 0 0] 32, oE movessE [vm] ((r.moves.take j).map (List.map (raisedM k)))]) (fun q _ => m - (intOf q).toNat)
  case atStart => exact ⟨0, _, by omega, rfl, S⟩
  case round =>
    clear S
    obtain ⟨j, vm, hj, rfl, S⟩ := hrel
    obtain ⟨ua, un, uc, rfl⟩ := S.slc 2 rfl
    by_cases hlt : j < m
    case neg =>
      obtain rfl : m = j := by omega
      have x0 := (S.blk 0 rfl).cell 0 rfl
      have x1 := (S.blk 0 rfl).cell 1 rfl
      have x2 := (S.blk 0 rfl).cell 2 rfl
      have R0 := S.blk 1 rfl
      have f0 := R0.cell 0 rfl
      have f1 := R0.cell 1 rfl
      have f2 := R0.cell 2 rfl
      have ff := R0.free
      go_wp2
      generalize hW : ((wr.setCell _ _).setCell _ _).setCell _ _ = w5
      have S5 := (S.sel [1, 2]).set3 rfl hW
      have A3 := S5.blk 0 rfl
      have q0 := A3.cell 0 rfl
      have q1 := A3.cell 1 rfl
      have q2 := A3.cell 2 rfl
      have S6 := ((S5.int k1).int k0).sel [0, 1, 3]
      obtain rfl := HX.out
      have hfull : r.moves.map (List.map (raisedM k)) = (r.moves.take m).map (List.map (raisedM k)) := by rw [HM.out, List.take_length]
      rw [hfull]
      exact bodyPost_ret (v := .agg #[.int .i64 r.letters, .int .i64 r.start, .slice ua un uc]) (by simp [results, Tryd.results59, go_sem, q0, q1, q2]) rfl (turn_made (x := ⟨r.letters, r.start, (r.moves.take m).map (List.map (raisedM k))⟩) S6)
    obtain ⟨rb, ro, vk, rfl, -, hrc, hrd⟩ := Q4.out j hlt
    have hmem := mem_getD (l := r.moves) (k := j) (by rw [← HM.out]; exact hlt)
    have hst : (r.moves.take (j + 1)).map (List.map (raisedM k)) = (r.moves.take j).map (List.map (raisedM k)) ++ [(r.moves[j]?.getD default).map (raisedM k)] := by
      have hj2 : j < r.moves.length := by rw [← HM.out]; exact hlt
      rw [List.take_succ_eq_append_getElem hj2, List.map_append, List.getElem?_eq_getElem hj2]
      rfl
    have hrow := (HK.out.row _ hmem).2
    obtain ⟨row, hrow2⟩ : ∃ y, y = r.moves[j]?.getD default := ⟨_, rfl⟩
    rw [← hrow2] at hrd hrow hst
    obtain ⟨ma, mc, rfl, m1, m2, -, m4⟩ := rd_movesE hrd
    obtain ⟨rl, hrl⟩ : ∃ y, y = row.length := ⟨_, rfl⟩
    rw [← hrl] at m1 m4 hrc
    have hr5 : rl ≤ 5 := by rw [hrl, hrow2]; exact HK.out.len hmem
    have HST := Lib.hid hst; have HROW := Lib.hid hrow; have M4 := Lib.hid m4; have HRL := Lib.hid hrl
    have BW := S.below
    have cr := (BW.cell (World.block_lt_of_cell? w _ hrc)).trans hrc
    clear hmem hst hrow hrow2 hrd m4 hrl hrc BW
    replace S := ((S.alloc (cs := #[]) (ty := 65)).lit0 (α := Move) (E := moveE))
    go_wp2
    generalize hW : wr.alloc _ = w6 at S ⊢
    clear hW cr
    obtain ⟨g6, hg6⟩ : ∃ g, g = wr.heap.size := ⟨_, rfl⟩
    rw [← hg6] at S ⊢
    clear hg6
    go_loopw [8, 26] (fun vl q wr => ∃ (i : Nat) (v : Value), i ≤ rl ∧ vl = v ∧ q = .int .i64 i ∧ Star w wr [oE movesE [v] ((row.take i).map (raisedM k)), oB (w.heap.size + 1 + 1) [.int .i64 r.letters, .int .i64 r.start, .slice ua un uc] 32, oB (w.heap.size + 1) [.int .i64 0, .int .i64 0, .slice none 0 0] 32, oE movessE [.slice ua un uc] ((r.moves.take j).map (List.map (raisedM k)))]) (fun _ q _ => rl - (intOf q).toNat)
    case atStart => exact ⟨0, _, by omega, rfl, rfl, S⟩
    case round =>
      clear S
      obtain ⟨i, v, hi, rfl, rfl, S⟩ := hrel
      obtain ⟨la, ln, lc, rfl⟩ := S.slc 0 rfl
      by_cases hil : i < rl
      case neg =>
        obtain rfl : rl = i := by omega
        have hfull : row.take rl = row := by rw [HRL.out]; exact List.take_length
        rw [hfull] at S
        have hlm : ((r.moves.take j).map (List.map (raisedM k))).length ≤ 1000000000000 := by
          rw [List.length_map, List.length_take]; omega
        have x2 := (S.blk 1 rfl).cell 2 rfl
        have SC := (S.alloc (cs := #[.slice la ln lc]) (ty := 66)).sel [4, 1, 2, 3]
        go_wp2_with (at_builtin; refine st1_MoveSS SC rfl rfl rfl rfl cell_a1 (one_mem rfl) hlm ?_; intro ja jn jc w9 S9; have x9 := (S9.blk 1 rfl).cell 2 rfl; have cf := (S9.blk 1 rfl).free)
        go_roundw
        case rel => exact ⟨j + 1, _, by omega, by go_num, by rw [HST.out]; exact (S9.sel [1, 2, 0]).set 2 (.slice ja jn jc)⟩
        case measure => simp [intOf]; omega
      obtain ⟨sb, so, rfl, -, ⟨hm0, hm1⟩, -⟩ := M4.out i hil
      have hok := moveOk_bdj (HROW.out i (by rw [← HRL.out]; exact hil))
      have hst2 : (row.take (i + 1)).map (raisedM k) = (row.take i).map (raisedM k) ++ [raisedM k (row[i]?.getD default)] := by
        have hi2 : i < row.length := by rw [← HRL.out]; exact hil
        rw [List.take_succ_eq_append_getElem hi2, List.map_append, List.getElem?_eq_getElem hi2]
        rfl
      have hll : ((row.take i).map (raisedM k)).length ≤ 1000000000000 := by rw [List.length_map, List.length_take]; omega
      obtain ⟨mv, hmv⟩ : ∃ y, y = row[i]?.getD default := ⟨_, rfl⟩
      rw [← hmv] at hm0 hm1 hok hst2
      rw [← HM.out] at hok
      obtain ⟨⟨ht2, htm⟩, hd1, hd2⟩ := hok
      have hbt : -2 ≤ mv.to ∧ mv.to ≤ 100 := ⟨by omega, by omega⟩
      have hbd : -1 ≤ mv.dir ∧ mv.dir ≤ 1 := ⟨hd1, hd2⟩
      have HS2 := Lib.hid hst2
      have BW := S.below
      have q0 := (BW.cell (World.block_lt_of_cell? w _ hm0)).trans hm0
      have q1 := (BW.cell (World.block_lt_of_cell? w _ hm1)).trans hm1
      clear hm0 hm1 hst2 hmv BW
      replace S := S.alloc (cs := #[.int .i64 mv.to, .int .i64 mv.dir]) (ty := 65)
      go_wp2_with fail
      generalize hW : wr.alloc _ = w7 at S ⊢
      clear hW q0 q1
      have BW := S.below
      refine (raisC_any k hk mv hbt hbd g w7 ((BW.cell hgl).trans hg)).mono ?_
      rintro e w8 ⟨rfl, b8⟩
      replace S := S.step b8
      clear b8 BW
      obtain ⟨nm, hnm⟩ : ∃ y, y = raisedM k mv := ⟨_, rfl⟩
      have hb3 := (raisedM_bd k hk mv hbt hbd)
      rw [← hnm] at hb3 ⊢
      have HSTEP := HS2
      rw [← hnm] at HSTEP
      clear hnm HS2
      have SB := ((S.alloc (cs := #[.int .i64 nm.to, .int .i64 nm.dir]) (ty := 65)).move (x := nm.to) (y := nm.dir) hb3.1 hb3.2).sel [3, 0, 4, 5, 6]
      clear S
      go_wp2_with (at_builtin; refine st1_MoveS SB rfl rfl rfl rfl cell_a1 (one_mem2 rfl rfl) hll ?_; intro ja jn jc w9 S9)
      go_roundw
      case rel => exact ⟨i + 1, _, by omega, rfl, by go_num, by rw [HSTEP.out]; exact S9⟩
      case measure => simp [intOf]; omega

end Go.Proofs.YtnkhgfdlehhjmaaDoor
