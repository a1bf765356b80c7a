/-
  The contracts of the laws' own markTurner and heldTurner (written by a program of this claim's own, gen_structs.py).
-/
import Derived.Test.YtcifdkliiljmkaaGreatDoorPackB
namespace Go.Proofs.YtcifdkliiljmkaaGreatDoor
open Go.RowKit

def turnM : Mk Turner := ⟨fun r k => (listM movesM).held r.moves (k), fun r => (listM movesM).cnt r.moves⟩

set_option maxHeartbeats 1000000 in
theorem markTurner_any (cs : List Value) (r : Turner) (fp : List Nat) (k0 : Int) (w : World) (h : turnE.ow w cs r fp) (hn : fp.Nodup) (h0 : 0 ≤ k0) (h1 : k0 + turnM.cnt r ≤ 4611686018427387904) :
    Calls Tryz.prog 16 #[.agg cs.toArray, .int .i64 k0] w (Marks turnE turnM cs r fp k0 w) := by
  obtain ⟨v2, f2, rfl, b0, b1, hh2, rfl⟩ := ow_Turner_inv h
  obtain ⟨sa2, sn2, sc2, rfl⟩ := rd_slice (movessE.rd_ow hh2)
  have n2 := hn
  clear hn h
  have N2 := Lib.hid n2; clear n2
  have L2 := Lib.hid (movessE.ow_lt hh2)
  have O2 := Lib.hid hh2; clear hh2
  have HC : Hid (k0 + (((listM movesM).cnt r.moves : Nat) : Int) ≤ 4611686018427387904) := Lib.hid h1
  clear h1
  go_enter Tryz.func16, Tryz.ntmps16
  go_wp2_with fail
  generalize hW : w.alloc _ = w0
  obtain ⟨A0, hB⟩ := blk1 hW
  clear hW
  obtain ⟨g, hg⟩ : ∃ g, g = w.heap.size := ⟨_, rfl⟩
  rw [← hg] at A0 ⊢
  have Hg := Lib.hid hg; clear hg
  have BT := Lib.hid (But.of_below (fp := fp) hB)
  have O2 := Lib.hid (movessE.ow_of hB O2.out)
  clear hB
  have HA := Lib.hid A0; clear A0
  refine (markMoveSS_any _ r.moves fp k0 _ O2.out N2.out (by omega) (show k0 + ((listM movesM).cnt r.moves : Int) ≤ 4611686018427387904 from by have := HC.out; omega)).mono ?_
  rintro e w1 ⟨x2, rfl, p2, m2, k2, bt⟩
  have BT := Lib.hid (BT.out.trans (bt.mono (fun b hb => hb)))
  have HA := Lib.hid (HA.out.but bt (fun hb => by have := L2.out _ hb; have := Hg.out; omega))
  have O2 := Lib.hid p2; have M2 := Lib.hid m2; have K2 := Lib.hid k2
  clear bt p2 m2 k2
  obtain ⟨q0, hq⟩ : ∃ q : Int, q = k0 + ((listM movesM).cnt r.moves : Int) := ⟨_, rfl⟩
  rw [← hq]
  have g0 : 0 ≤ q0 := by omega
  have HQ0 := Lib.hid hq; clear hq
  go_wp2
  go_ret
  have mm0 := M2.out
  refine ⟨{ r with moves := x2 }, ret_k_ret (by show _ = k0 + (((listM movesM).cnt r.moves : Nat) : Int); have := HQ0.out; omega), ?_, mm0, ?_, BT.out⟩
  · exact ow_Turner (r := { r with moves := x2 }) b0 b1 O2.out
  · show (listM movesM).cnt x2 = (listM movesM).cnt r.moves
    rw [K2.out]

set_option maxHeartbeats 1000000 in
theorem heldTurner_any (cs : List Value) (r : Turner) (B : Nat) (k0 : Int) (w : World) (hB0 : B ≤ w.heap.size) (h : turnE.rd w B cs r) (hm : turnM.held r k0) (h0 : 0 ≤ k0) (h1 : k0 + turnM.cnt r ≤ 4611686018427387904) :
    Calls Tryz.prog 17 #[.agg cs.toArray, .int .i64 k0] w (Gives (.int .i64 (k0 + turnM.cnt r)) w) := by
  obtain ⟨v2, rfl, -, -, hh2⟩ := rd_Turner h
  obtain ⟨sa2, sn2, sc2, rfl⟩ := rd_slice hh2
  have R2 := Lib.hid hh2; clear hh2
  have m2 := hm
  clear hm
  have M2 := Lib.hid m2; clear m2
  have HC : Hid (k0 + (((listM movesM).cnt r.moves : Nat) : Int) ≤ 4611686018427387904) := Lib.hid h1
  clear h1 h
  go_enter Tryz.func17, Tryz.ntmps17
  go_wp2_with fail
  generalize hW : w.alloc _ = w0
  obtain ⟨A0, hB⟩ := blk1 hW
  clear hW
  have HA := Lib.hid A0; clear A0
  have HB := Lib.hid hB; clear hB
  have hmk := M2.out
  refine (heldMoveSS_any _ r.moves B k0 _ (Nat.le_trans hB0 HB.out.size) (movessE.rd_of (HB.out.mono hB0) R2.out) hmk (by omega) (show k0 + ((listM movesM).cnt r.moves : Int) ≤ 4611686018427387904 from by have := HC.out; omega)).mono ?_
  rintro e w1 ⟨he, b⟩
  clear hmk
  have he : e = .returned (.int .i64 (k0 + ((listM movesM).cnt r.moves : Int))) := he
  have HA := Lib.hid (HA.out.of b HA.out.lt)
  have HB := Lib.hid (HB.out.trans (b.mono HB.out.size))
  clear b
  obtain ⟨q0, hq⟩ : ∃ q : Int, q = k0 + ((listM movesM).cnt r.moves : Int) := ⟨_, rfl⟩
  rw [← hq] at he
  subst he
  have g0 : 0 ≤ q0 := by omega
  have t0 : ¬ q0 < 0 := by omega
  have HQ0 := Lib.hid hq; clear hq
  go_wp2
  go_ret
  exact ⟨ret_k_ret (by show _ = k0 + (((listM movesM).cnt r.moves : Nat) : Int); have := HQ0.out; omega), HB.out⟩

end Go.Proofs.YtcifdkliiljmkaaGreatDoor
