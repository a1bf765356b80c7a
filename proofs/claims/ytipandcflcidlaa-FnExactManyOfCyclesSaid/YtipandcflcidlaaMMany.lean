/-
  The contracts of the laws' own markMany and heldMany (written by a program of this claim's own, gen_structs.py).
-/
import Derived.Test.YtipandcflcidlaaMBoolS
import Derived.Test.YtipandcflcidlaaMInt64S
import Derived.Test.YtipandcflcidlaaMInt64SSS
import Derived.Test.YtipandcflcidlaaButMono
namespace Go.Proofs.Ytipandcflcidlaa
open Go.RowKit

def manyM : Mk Many := ⟨fun r k => intsM.held r.starts (k) ∧ boolsM.held r.accept (k + (intsM.cnt r.starts : Int)) ∧ (listM (listM intsM)).held r.next (k + (intsM.cnt r.starts : Int) + (boolsM.cnt r.accept : Int)), fun r => intsM.cnt r.starts + boolsM.cnt r.accept + (listM (listM intsM)).cnt r.next⟩

set_option maxHeartbeats 1000000 in
theorem markMany_any (cs : List Value) (r : Many) (fp : List Nat) (k0 : Int) (w : World) (h : manyE.ow w cs r fp) (hn : fp.Nodup) (h0 : 0 ≤ k0) (h1 : k0 + manyM.cnt r ≤ 4611686018427387904) :
    Calls Try.prog 17 #[.agg cs.toArray, .int .i64 k0] w (Marks manyE manyM cs r fp k0 w) := by
  obtain ⟨v1, f1, v2, f2, v3, f3, rfl, b0, hh1, hh2, hh3, rfl⟩ := ow_Many_inv h
  obtain ⟨sa1, sn1, sc1, rfl⟩ := rd_slice (intsE.rd_ow hh1)
  obtain ⟨sa2, sn2, sc2, rfl⟩ := rd_slice (boolsE.rd_ow hh2)
  obtain ⟨sa3, sn3, sc3, rfl⟩ := rd_slice (intsssE.rd_ow hh3)
  obtain ⟨n1, nn, dd⟩ := List.nodup_append.1 hn
  obtain ⟨n2, n3, ee⟩ := List.nodup_append.1 nn
  clear nn
  have D12 := Lib.hid (fun a (ha : a ∈ f1) b (hb : b ∈ f2) => dd a ha b (List.mem_append_left _ hb))
  have D13 := Lib.hid (fun a (ha : a ∈ f1) b (hb : b ∈ f3) => dd a ha b (List.mem_append_right _ hb))
  have D23 := Lib.hid (fun a (ha : a ∈ f2) b (hb : b ∈ f3) => ee a ha b hb)
  clear dd ee
  clear hn h
  have N1 := Lib.hid n1; clear n1
  have L1 := Lib.hid (intsE.ow_lt hh1)
  have O1 := Lib.hid hh1; clear hh1
  have N2 := Lib.hid n2; clear n2
  have L2 := Lib.hid (boolsE.ow_lt hh2)
  have O2 := Lib.hid hh2; clear hh2
  have N3 := Lib.hid n3; clear n3
  have L3 := Lib.hid (intsssE.ow_lt hh3)
  have O3 := Lib.hid hh3; clear hh3
  have HC : Hid (k0 + ((intsM.cnt r.starts + boolsM.cnt r.accept + (listM (listM intsM)).cnt r.next : Nat) : Int) ≤ 4611686018427387904) := Lib.hid h1
  clear h1
  go_enter Try.func17, Try.ntmps17
  go_wp2_with fail
  generalize hW : w.alloc _ = w0
  obtain ⟨A0, hB⟩ := blk1 hW
  clear hW
  obtain ⟨g, hg⟩ : ∃ g, g = w.heap.size := ⟨_, rfl⟩
  rw [← hg] at A0 ⊢
  have Hg := Lib.hid hg; clear hg
  have BT := Lib.hid (But.of_below (fp := f1 ++ (f2 ++ f3)) hB)
  have O1 := Lib.hid (intsE.ow_of hB O1.out)
  have O2 := Lib.hid (boolsE.ow_of hB O2.out)
  have O3 := Lib.hid (intsssE.ow_of hB O3.out)
  clear hB
  have HA := Lib.hid A0; clear A0
  refine (markInt64S_any _ r.starts f1 k0 _ O1.out (by omega) (show k0 + (intsM.cnt r.starts : Int) ≤ 4611686018427387904 from by have := HC.out; omega)).mono ?_
  rintro e w1 ⟨x1, rfl, p1, m1, k1, bt⟩
  have BT := Lib.hid (BT.out.trans (bt.mono (fun b hb => List.mem_append_left _ hb)))
  have HA := Lib.hid (HA.out.but bt (fun hb => by have := L1.out _ hb; have := Hg.out; omega))
  have O2 := Lib.hid (boolsE.ow_but O2.out bt (fun b hb hb2 => D12.out b hb2 b hb rfl))
  have O3 := Lib.hid (intsssE.ow_but O3.out bt (fun b hb hb2 => D13.out b hb2 b hb rfl))
  have O1 := Lib.hid p1; have M1 := Lib.hid m1; have K1 := Lib.hid k1
  clear bt p1 m1 k1
  obtain ⟨q0, hq⟩ : ∃ q : Int, q = k0 + (intsM.cnt r.starts : Int) := ⟨_, rfl⟩
  rw [← hq]
  have g0 : 0 ≤ q0 := by omega
  have HQ0 := Lib.hid hq; clear hq
  have c0 := HA.out.cell 2 rfl
  go_wp2_with fail
  clear c0
  refine (markBoolS_any _ r.accept f2 q0 _ O2.out (by omega) (show q0 + (boolsM.cnt r.accept : Int) ≤ 4611686018427387904 from by have := HC.out; have := HQ0.out; omega)).mono ?_
  rintro e w2 ⟨x2, rfl, p2, m2, k2, bt⟩
  have BT := Lib.hid (BT.out.trans (bt.mono (fun b hb => List.mem_append_right _ (List.mem_append_left _ hb))))
  have HA := Lib.hid (HA.out.but bt (fun hb => by have := L2.out _ hb; have := Hg.out; omega))
  have O1 := Lib.hid (intsE.ow_but O1.out bt (fun b hb hb2 => D12.out b hb b hb2 rfl))
  have O3 := Lib.hid (intsssE.ow_but O3.out bt (fun b hb hb2 => D23.out b hb2 b hb rfl))
  have O2 := Lib.hid p2; have M2 := Lib.hid m2; have K2 := Lib.hid k2
  clear bt p2 m2 k2
  obtain ⟨q1, hq⟩ : ∃ q : Int, q = q0 + (boolsM.cnt r.accept : Int) := ⟨_, rfl⟩
  rw [← hq]
  have g1 : 0 ≤ q1 := by omega
  have HQ1 := Lib.hid hq; clear hq
  have c0 := HA.out.cell 3 rfl
  go_wp2_with fail
  clear c0
  refine (markInt64SSS_any _ r.next f3 q1 _ O3.out N3.out (by omega) (show q1 + ((listM (listM intsM)).cnt r.next : Int) ≤ 4611686018427387904 from by have := HC.out; have := HQ0.out; have := HQ1.out; omega)).mono ?_
  rintro e w3 ⟨x3, rfl, p3, m3, k3, bt⟩
  have BT := Lib.hid (BT.out.trans (bt.mono (fun b hb => List.mem_append_right _ (List.mem_append_right _ hb))))
  have HA := Lib.hid (HA.out.but bt (fun hb => by have := L3.out _ hb; have := Hg.out; omega))
  have O1 := Lib.hid (intsE.ow_but O1.out bt (fun b hb hb2 => D13.out b hb b hb2 rfl))
  have O2 := Lib.hid (boolsE.ow_but O2.out bt (fun b hb hb2 => D23.out b hb b hb2 rfl))
  have O3 := Lib.hid p3; have M3 := Lib.hid m3; have K3 := Lib.hid k3
  clear bt p3 m3 k3
  obtain ⟨q2, hq⟩ : ∃ q : Int, q = q1 + ((listM (listM intsM)).cnt r.next : Int) := ⟨_, rfl⟩
  rw [← hq]
  have g2 : 0 ≤ q2 := by omega
  have HQ2 := Lib.hid hq; clear hq
  go_wp2
  go_ret
  have mm0 := M1.out
  have ee : q0 = k0 + (intsM.cnt r.starts : Int) := by have := HQ0.out; omega
  have mm1 : boolsM.held x2 (k0 + (intsM.cnt x1 : Int)) := by rw [K1.out, ← ee]; exact M2.out
  clear ee
  have ee : q1 = k0 + (intsM.cnt r.starts : Int) + (boolsM.cnt r.accept : Int) := by have := HQ0.out; have := HQ1.out; omega
  have mm2 : (listM (listM intsM)).held x3 (k0 + (intsM.cnt x1 : Int) + (boolsM.cnt x2 : Int)) := by rw [K1.out, K2.out, ← ee]; exact M3.out
  clear ee
  refine ⟨{ r with starts := x1, accept := x2, next := x3 }, ret_k_ret (by show _ = k0 + ((intsM.cnt r.starts + boolsM.cnt r.accept + (listM (listM intsM)).cnt r.next : Nat) : Int); have := HQ0.out; have := HQ1.out; have := HQ2.out; omega), ?_, ⟨mm0, mm1, mm2⟩, ?_, BT.out⟩
  · exact ow_Many (r := { r with starts := x1, accept := x2, next := x3 }) b0 O1.out O2.out O3.out
  · show intsM.cnt x1 + boolsM.cnt x2 + (listM (listM intsM)).cnt x3 = intsM.cnt r.starts + boolsM.cnt r.accept + (listM (listM intsM)).cnt r.next
    rw [K1.out, K2.out, K3.out]

set_option maxHeartbeats 1000000 in
theorem heldMany_any (cs : List Value) (r : Many) (B : Nat) (k0 : Int) (w : World) (hB0 : B ≤ w.heap.size) (h : manyE.rd w B cs r) (hm : manyM.held r k0) (h0 : 0 ≤ k0) (h1 : k0 + manyM.cnt r ≤ 4611686018427387904) :
    Calls Try.prog 18 #[.agg cs.toArray, .int .i64 k0] w (Gives (.int .i64 (k0 + manyM.cnt r)) w) := by
  obtain ⟨v1, v2, v3, rfl, -, hh1, hh2, hh3⟩ := rd_Many h
  obtain ⟨sa1, sn1, sc1, rfl⟩ := rd_slice hh1
  obtain ⟨sa2, sn2, sc2, rfl⟩ := rd_slice hh2
  obtain ⟨sa3, sn3, sc3, rfl⟩ := rd_slice hh3
  have R1 := Lib.hid hh1; clear hh1
  have R2 := Lib.hid hh2; clear hh2
  have R3 := Lib.hid hh3; clear hh3
  obtain ⟨m1, m2, m3⟩ := hm
  have M1 := Lib.hid m1; clear m1
  have M2 := Lib.hid m2; clear m2
  have M3 := Lib.hid m3; clear m3
  have HC : Hid (k0 + ((intsM.cnt r.starts + boolsM.cnt r.accept + (listM (listM intsM)).cnt r.next : Nat) : Int) ≤ 4611686018427387904) := Lib.hid h1
  clear h1 h
  go_enter Try.func18, Try.ntmps18
  go_wp2_with fail
  generalize hW : w.alloc _ = w0
  obtain ⟨A0, hB⟩ := blk1 hW
  clear hW
  have HA := Lib.hid A0; clear A0
  have HB := Lib.hid hB; clear hB
  have hmk := M1.out
  refine (heldInt64S_any _ r.starts B k0 _ (intsE.rd_of (HB.out.mono hB0) R1.out) hmk (by omega) (show k0 + (intsM.cnt r.starts : Int) ≤ 4611686018427387904 from by have := HC.out; omega)).mono ?_
  rintro e w1 ⟨he, b⟩
  clear hmk
  have he : e = .returned (.int .i64 (k0 + (intsM.cnt r.starts : Int))) := he
  have HA := Lib.hid (HA.out.of b HA.out.lt)
  have HB := Lib.hid (HB.out.trans (b.mono HB.out.size))
  clear b
  obtain ⟨q0, hq⟩ : ∃ q : Int, q = k0 + (intsM.cnt r.starts : Int) := ⟨_, rfl⟩
  rw [← hq] at he
  subst he
  have g0 : 0 ≤ q0 := by omega
  have t0 : ¬ q0 < 0 := by omega
  have HQ0 := Lib.hid hq; clear hq
  have c0 := HA.out.cell 2 rfl
  go_wp2_with fail
  clear c0
  have hmk : boolsM.held r.accept q0 := by
    have e : q0 = k0 + (intsM.cnt r.starts : Int) := (by have := HQ0.out; omega)
    rw [e]; exact M2.out
  refine (heldBoolS_any _ r.accept B q0 _ (boolsE.rd_of (HB.out.mono hB0) R2.out) hmk (by omega) (show q0 + (boolsM.cnt r.accept : Int) ≤ 4611686018427387904 from by have := HC.out; have := HQ0.out; omega)).mono ?_
  rintro e w2 ⟨he, b⟩
  clear hmk
  have he : e = .returned (.int .i64 (q0 + (boolsM.cnt r.accept : Int))) := he
  have HA := Lib.hid (HA.out.of b HA.out.lt)
  have HB := Lib.hid (HB.out.trans (b.mono HB.out.size))
  clear b
  obtain ⟨q1, hq⟩ : ∃ q : Int, q = q0 + (boolsM.cnt r.accept : Int) := ⟨_, rfl⟩
  rw [← hq] at he
  subst he
  have g1 : 0 ≤ q1 := by omega
  have t1 : ¬ q1 < 0 := by omega
  have HQ1 := Lib.hid hq; clear hq
  have c0 := HA.out.cell 3 rfl
  go_wp2_with fail
  clear c0
  have hmk : (listM (listM intsM)).held r.next q1 := by
    have e : q1 = k0 + (intsM.cnt r.starts : Int) + (boolsM.cnt r.accept : Int) := (by have := HQ0.out; have := HQ1.out; omega)
    rw [e]; exact M3.out
  refine (heldInt64SSS_any _ r.next B q1 _ (Nat.le_trans hB0 HB.out.size) (intsssE.rd_of (HB.out.mono hB0) R3.out) hmk (by omega) (show q1 + ((listM (listM intsM)).cnt r.next : Int) ≤ 4611686018427387904 from by have := HC.out; have := HQ0.out; have := HQ1.out; omega)).mono ?_
  rintro e w3 ⟨he, b⟩
  clear hmk
  have he : e = .returned (.int .i64 (q1 + ((listM (listM intsM)).cnt r.next : Int))) := he
  have HA := Lib.hid (HA.out.of b HA.out.lt)
  have HB := Lib.hid (HB.out.trans (b.mono HB.out.size))
  clear b
  obtain ⟨q2, hq⟩ : ∃ q : Int, q = q1 + ((listM (listM intsM)).cnt r.next : Int) := ⟨_, rfl⟩
  rw [← hq] at he
  subst he
  have g2 : 0 ≤ q2 := by omega
  have t2 : ¬ q2 < 0 := by omega
  have HQ2 := Lib.hid hq; clear hq
  go_wp2
  go_ret
  exact ⟨ret_k_ret (by show _ = k0 + ((intsM.cnt r.starts + boolsM.cnt r.accept + (listM (listM intsM)).cnt r.next : Nat) : Int); have := HQ0.out; have := HQ1.out; have := HQ2.out; omega), HB.out⟩

end Go.Proofs.Ytipandcflcidlaa
