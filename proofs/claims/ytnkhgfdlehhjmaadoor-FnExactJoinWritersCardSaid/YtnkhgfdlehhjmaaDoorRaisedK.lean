/-
  The program's raised (written by a program of this claim's own, gen_join.py).
-/
import Derived.Test.YtnkhgfdlehhjmaaDoorChgRaiseK
namespace Go.Proofs.YtnkhgfdlehhjmaaDoor
open Go.RowKit

set_option maxHeartbeats 2000000 in
theorem raised_any (k : Int) (hk : -1 ≤ k ∧ k ≤ 100) (x : Turner) (cs : List Value) (r : Turner) (B : Nat) (w : World) (hB0 : B ≤ w.heap.size) (h : turnE.rd w B cs r) (hv : validTurn r = true) (hx : x = ⟨r.letters, r.start + k, r.moves.map (List.map (raisedM k))⟩) :
    Calls Tryd.prog 58 #[.agg cs.toArray, .int .i64 k] w (MakesS turnE id x w) := by
  have HX := Lib.hid hx
  have K := turnOk_of hv
  have k0 : -9223372036854775808 ≤ r.letters ∧ r.letters ≤ 9223372036854775807 := by have := K.l1; have := K.l3; omega
  have k1 : -9223372036854775808 ≤ r.start + k ∧ r.start + k ≤ 9223372036854775807 := by have := K.s0; have := K.s1; have := K.n12; omega
  have wk : IntKind.i64.wrap (r.start + k) = r.start + k := IntWalk.i64_in _ k1
  have RA := Lib.hid h
  obtain ⟨v2, rfl, -, -, h2⟩ := rd_Turner h
  obtain ⟨ta, tn, tc, rfl⟩ := rd_slice h2
  clear K h h2 hx
  have S := (((Star.nil w).alloc (cs := #[.int .i64 r.letters, .int .i64 r.start, .slice ta tn tc]) (ty := 32)).alloc (cs := #[.int .i64 k]) (ty := 2)).alloc (cs := #[.int .i64 0, .int .i64 0, .slice none 0 0]) (ty := 32)
  rw [World.size_alloc, World.size_alloc] at S
  go_enter Tryd.func58, Tryd.ntmps58
  go_wp2_with fail
  generalize hW : ((w.alloc _).alloc _).alloc _ = w0 at S ⊢
  clear hW
  refine (chgRaise_any k hk (w.heap.size + 1) _ _ r B w0 (Nat.le_trans hB0 S.below.size) (turnE.rd_of (S.below.mono hB0) RA.out) hv ((S.blk 1 rfl).cell 0 rfl) rfl).mono ?_
  rintro e w1 ⟨cs, fp, rfl, o, nd, lo, b⟩
  obtain ⟨v5, rfl, -, -, o5⟩ := rd_Turner (Enc.rd_ow _ o)
  obtain ⟨ca, cn, cc, rfl⟩ := rd_slice o5
  clear o5 RA
  replace S := (S.made o nd lo b).moves
  clear o nd lo b
  have y0 := fun o => ((S.blk 2 rfl).alloc o).cell 0 rfl
  have f0 := fun o => ((S.blk 1 rfl).alloc o).cell 0 rfl
  have f1 := fun o => ((S.blk 1 rfl).alloc o).cell 1 rfl
  have f2 := fun o => ((S.blk 1 rfl).alloc o).cell 2 rfl
  have ff := fun o => ((S.blk 1 rfl).alloc o).free
  go_wp2
  generalize hW : (((w1.alloc _).setCell _ _).setCell _ _).setCell _ _ = w5
  have S5 := ((S.alloc (cs := #[.int .i64 r.letters, .int .i64 (r.start + k), .slice ca cn cc]) (ty := 32)).sel [2, 1]).set3 rfl hW
  have A3 := S5.blk 0 rfl
  have q0 := A3.cell 0 rfl
  have q1 := A3.cell 1 rfl
  have q2 := A3.cell 2 rfl
  have S6 := ((S5.int k1).int k0).sel [0, 1, 3]
  obtain rfl := HX.out
  exact bodyPost_ret (v := .agg #[.int .i64 r.letters, .int .i64 (r.start + k), .slice ca cn cc]) (by simp [results, Tryd.results58, go_sem, q0, q1, q2]) rfl (turn_made (x := ⟨r.letters, r.start + k, r.moves.map (List.map (raisedM k))⟩) S6)

end Go.Proofs.YtnkhgfdlehhjmaaDoor
