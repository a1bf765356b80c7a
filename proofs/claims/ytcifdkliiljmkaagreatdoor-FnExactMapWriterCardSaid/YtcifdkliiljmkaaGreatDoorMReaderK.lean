/-
  The contracts of the laws' own markReader and heldReader (written by a program of this claim's own, gen_structs.py).
-/
import Derived.Test.YtcifdkliiljmkaaGreatDoorMBoolSK
import Derived.Test.YtcifdkliiljmkaaGreatDoorMInt64SSK
import Derived.Test.YtcifdkliiljmkaaGreatDoorPackB
namespace Go.Proofs.YtcifdkliiljmkaaGreatDoor
open Go.RowKit

def readM : Mk Reader := ⟨fun r k => boolsM.held r.accept (k) ∧ (listM intsM).held r.next (k + (boolsM.cnt r.accept : Int)), fun r => boolsM.cnt r.accept + (listM intsM).cnt r.next⟩

set_option maxHeartbeats 1000000 in
theorem markReader_any (cs : List Value) (r : Reader) (fp : List Nat) (k0 : Int) (w : World) (h : readE.ow w cs r fp) (hn : fp.Nodup) (h0 : 0 ≤ k0) (h1 : k0 + readM.cnt r ≤ 4611686018427387904) :
    Calls Tryz.prog 15 #[.agg cs.toArray, .int .i64 k0] w (Marks readE readM cs r fp k0 w) := by
  obtain ⟨v2, f2, v3, f3, rfl, b0, b1, hh2, hh3, rfl⟩ := ow_Reader_inv h
  obtain ⟨sa2, sn2, sc2, rfl⟩ := rd_slice (boolsE.rd_ow hh2)
  obtain ⟨sa3, sn3, sc3, rfl⟩ := rd_slice (intssE.rd_ow hh3)
  obtain ⟨n2, n3, dd⟩ := List.nodup_append.1 hn
  have D23 := Lib.hid (fun a (ha : a ∈ f2) b (hb : b ∈ f3) => dd a ha b hb)
  clear dd
  clear hn h
  have N2 := Lib.hid n2; clear n2
  have L2 := Lib.hid (boolsE.ow_lt hh2)
  have O2 := Lib.hid hh2; clear hh2
  have N3 := Lib.hid n3; clear n3
  have L3 := Lib.hid (intssE.ow_lt hh3)
  have O3 := Lib.hid hh3; clear hh3
  have HC : Hid (k0 + ((boolsM.cnt r.accept + (listM intsM).cnt r.next : Nat) : Int) ≤ 4611686018427387904) := Lib.hid h1
  clear h1
  go_enter Tryz.func15, Tryz.ntmps15
  go_wp2_with fail
  generalize hW : w.alloc _ = w0
  obtain ⟨A0, hB⟩ := blk1 hW
  clear hW
  obtain ⟨g, hg⟩ : ∃ g, g = w.heap.size := ⟨_, rfl⟩
  rw [← hg] at A0 ⊢
  have Hg := Lib.hid hg; clear hg
  have BT := Lib.hid (But.of_below (fp := f2 ++ f3) hB)
  have O2 := Lib.hid (boolsE.ow_of hB O2.out)
  have O3 := Lib.hid (intssE.ow_of hB O3.out)
  clear hB
  have HA := Lib.hid A0; clear A0
  refine (markBoolS_any _ r.accept f2 k0 _ O2.out (by omega) (show k0 + (boolsM.cnt r.accept : Int) ≤ 4611686018427387904 from by have := HC.out; omega)).mono ?_
  rintro e w1 ⟨x2, rfl, p2, m2, k2, bt⟩
  have BT := Lib.hid (BT.out.trans (bt.mono (fun b hb => List.mem_append_left _ hb)))
  have HA := Lib.hid (HA.out.but bt (fun hb => by have := L2.out _ hb; have := Hg.out; omega))
  have O3 := Lib.hid (intssE.ow_but O3.out bt (fun b hb hb2 => D23.out b hb2 b hb rfl))
  have O2 := Lib.hid p2; have M2 := Lib.hid m2; have K2 := Lib.hid k2
  clear bt p2 m2 k2
  obtain ⟨q0, hq⟩ : ∃ q : Int, q = k0 + (boolsM.cnt r.accept : Int) := ⟨_, rfl⟩
  rw [← hq]
  have g0 : 0 ≤ q0 := by omega
  have HQ0 := Lib.hid hq; clear hq
  have c0 := HA.out.cell 3 rfl
  go_wp2_with fail
  clear c0
  refine (markInt64SS_any _ r.next f3 q0 _ O3.out N3.out (by omega) (show q0 + ((listM intsM).cnt r.next : Int) ≤ 4611686018427387904 from by have := HC.out; have := HQ0.out; omega)).mono ?_
  rintro e w2 ⟨x3, rfl, p3, m3, k3, bt⟩
  have BT := Lib.hid (BT.out.trans (bt.mono (fun b hb => List.mem_append_right _ hb)))
  have HA := Lib.hid (HA.out.but bt (fun hb => by have := L3.out _ hb; have := Hg.out; omega))
  have O2 := Lib.hid (boolsE.ow_but O2.out bt (fun b hb hb2 => D23.out b hb b hb2 rfl))
  have O3 := Lib.hid p3; have M3 := Lib.hid m3; have K3 := Lib.hid k3
  clear bt p3 m3 k3
  obtain ⟨q1, hq⟩ : ∃ q : Int, q = q0 + ((listM intsM).cnt r.next : Int) := ⟨_, rfl⟩
  rw [← hq]
  have g1 : 0 ≤ q1 := by omega
  have HQ1 := Lib.hid hq; clear hq
  go_wp2
  go_ret
  have mm0 := M2.out
  have ee : q0 = k0 + (boolsM.cnt r.accept : Int) := by have := HQ0.out; omega
  have mm1 : (listM intsM).held x3 (k0 + (boolsM.cnt x2 : Int)) := by rw [K2.out, ← ee]; exact M3.out
  clear ee
  refine ⟨{ r with accept := x2, next := x3 }, ret_k_ret (by show _ = k0 + ((boolsM.cnt r.accept + (listM intsM).cnt r.next : Nat) : Int); have := HQ0.out; have := HQ1.out; omega), ?_, ⟨mm0, mm1⟩, ?_, BT.out⟩
  · exact ow_Reader (r := { r with accept := x2, next := x3 }) b0 b1 O2.out O3.out
  · show boolsM.cnt x2 + (listM intsM).cnt x3 = boolsM.cnt r.accept + (listM intsM).cnt r.next
    rw [K2.out, K3.out]

end Go.Proofs.YtcifdkliiljmkaaGreatDoor
