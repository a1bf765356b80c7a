/-
  The contracts of the laws' own markWriter and heldWriter.
-/
import Derived.Test.YtcifdkliiljmkaaGreatDoorMTurnerK
import Derived.Test.YtcifdkliiljmkaaGreatDoorMStringSSK
namespace Go.Proofs.YtcifdkliiljmkaaGreatDoor
open Go.RowKit

def writM : Mk Writer := ⟨fun r k => turnM.held r.turner k ∧ (listM strsM).held r.out (k + (turnM.cnt r.turner : Int)), fun r => turnM.cnt r.turner + (listM strsM).cnt r.out⟩

set_option maxHeartbeats 1000000 in
theorem markWriter_any (cs : List Value) (r : Writer) (fp : List Nat) (k0 : Int) (w : World) (h : writE.ow w cs r fp) (hn : fp.Nodup) (h0 : 0 < k0) (h1 : k0 + writM.cnt r ≤ 4611686018427387904) :
    Calls Tryz.prog 14 #[.agg cs.toArray, .int .i64 k0] w (Marks writE writM cs r fp k0 w) := by
  obtain ⟨c1, c2, f1, f2, rfl, rfl, ho1, ho2⟩ := h
  have ht := ho1
  obtain ⟨v2, gg, rfl, b0, b1, hh2, -⟩ := ow_Turner_inv ho1
  obtain ⟨sa2, sn2, sc2, rfl⟩ := rd_slice (movessE.rd_ow hh2)
  obtain ⟨v3, rfl⟩ := one_of (Enc.rd_len _ (Enc.rd_ow _ ho2))
  obtain ⟨sa3, sn3, sc3, rfl⟩ := rd_slice (strssE.rd_ow ho2)
  obtain ⟨n1, n2, n12⟩ := List.nodup_append.1 hn
  have d12 : ∀ b, b ∈ f2 → b ∉ f1 := fun b hb hg => n12 b hg b hb rfl
  have hlt1 := turnE.ow_lt ht
  have hlt2 := strssE.ow_lt ho2
  have hc1 : k0 + (turnM.cnt r.turner : Int) + ((listM strsM).cnt r.out : Int) ≤ 4611686018427387904 := by
    have : writM.cnt r = turnM.cnt r.turner + (listM strsM).cnt r.out := rfl
    rw [this] at h1; omega
  have HC := Lib.hid hc1
  have HT := Lib.hid ht; have HO := Lib.hid ho2; have N1 := Lib.hid n1; have N2 := Lib.hid n2; have D12 := Lib.hid d12; have L1 := Lib.hid hlt1; have L2 := Lib.hid hlt2
  clear hc1 ht ho1 ho2 hh2 n1 n2 n12 d12 hlt1 hlt2 hn h1
  go_enter Tryz.func14, Tryz.ntmps14
  go_wp2_with fail
  generalize hW : w.alloc _ = w0
  obtain ⟨A0, hB⟩ := blk1 hW
  clear hW
  have BT := Lib.hid (But.of_below (fp := f1 ++ f2) hB)
  have O1 := Lib.hid (turnE.ow_of hB HT.out)
  have O2 := Lib.hid (strssE.ow_of hB HO.out)
  clear hB
  have HA := Lib.hid A0; clear A0
  refine (markTurner_any _ r.turner f1 k0 _ O1.out N1.out (by omega) (by have := HC.out; omega)).mono ?_
  rintro e w1 ⟨x1, rfl, p1, m1, k1, bt⟩
  have BT := Lib.hid (BT.out.trans (bt.mono (fun b hb => List.mem_append_left _ hb)))
  have A1 := HA.out.but bt (fun hb => by have := L1.out _ hb; omega)
  have O2 := Lib.hid (strssE.ow_but O2.out bt D12.out)
  have P1 := Lib.hid p1; have M1 := Lib.hid m1; have K1 := Lib.hid k1
  clear bt p1 m1 k1
  obtain ⟨q0, hq⟩ : ∃ q : Int, q = k0 + (turnM.cnt r.turner : Int) := ⟨_, rfl⟩
  rw [← hq]
  have g0 : 0 < q0 := by omega
  have HQ0 := Lib.hid hq; clear hq
  have a3 := A1.cell 3 rfl
  go_wp2_with fail
  refine (markStringSS_any _ r.out f2 q0 _ O2.out N2.out g0 (show q0 + ((listM strsM).cnt r.out : Int) ≤ 4611686018427387904 from by have := HC.out; have := HQ0.out; omega)).mono ?_
  rintro e w2 ⟨x2, rfl, p2, m2, k2, bt⟩
  have BT := Lib.hid (BT.out.trans (bt.mono (fun b hb => List.mem_append_right _ hb)))
  have P1 := Lib.hid (turnE.ow_but P1.out bt (fun b hb hf => D12.out b hf hb))
  have P2 := Lib.hid p2; have M2 := Lib.hid m2; have K2 := Lib.hid k2
  clear bt p2 m2 k2 a3 A1
  obtain ⟨q1, hq⟩ : ∃ q : Int, q = q0 + ((listM strsM).cnt r.out : Int) := ⟨_, rfl⟩
  rw [← hq]
  have HQ1 := Lib.hid hq; clear hq
  go_wp2
  go_ret
  have hw : writM.cnt r = turnM.cnt r.turner + (listM strsM).cnt r.out := rfl
  refine ⟨⟨x1, x2⟩, ret_k_ret (by rw [hw]; have := HQ0.out; have := HQ1.out; omega), ⟨_, _, f1, f2, rfl, rfl, P1.out, P2.out⟩, ⟨M1.out, ?_⟩, ?_, BT.out⟩
  · show (listM strsM).held x2 (k0 + (turnM.cnt x1 : Int))
    rw [K1.out, ← HQ0.out]
    exact M2.out
  · show turnM.cnt x1 + (listM strsM).cnt x2 = turnM.cnt r.turner + (listM strsM).cnt r.out
    rw [K1.out, K2.out]

set_option maxHeartbeats 1000000 in
theorem heldWriter_any (cs : List Value) (r : Writer) (B : Nat) (k0 : Int) (w : World) (hB0 : B ≤ w.heap.size) (h : writE.rd w B cs r) (hm : writM.held r k0) (h0 : 0 < k0) (h1 : k0 + writM.cnt r ≤ 4611686018427387904) :
    Calls Tryz.prog 24 #[.agg cs.toArray, .int .i64 k0] w (Gives (.int .i64 (k0 + writM.cnt r)) w) := by
  obtain ⟨v2, v3, rfl, t2, h3⟩ := rd_Writer h
  obtain ⟨v2', he, -, -, y2⟩ := rd_Turner t2
  obtain rfl : v2 = v2' := by simpa using he
  obtain ⟨sa2, sn2, sc2, rfl⟩ := rd_slice y2
  obtain ⟨sa3, sn3, sc3, rfl⟩ := rd_slice h3
  have hc1 : k0 + (turnM.cnt r.turner : Int) + ((listM strsM).cnt r.out : Int) ≤ 4611686018427387904 := by
    have : writM.cnt r = turnM.cnt r.turner + (listM strsM).cnt r.out := rfl
    rw [this] at h1; omega
  have HC := Lib.hid hc1
  have T2 := Lib.hid t2; have H3 := Lib.hid h3; have M1 := Lib.hid hm.1; have M2 := Lib.hid hm.2
  clear hc1 t2 h3 y2 he h hm h1
  go_enter Tryz.func24, Tryz.ntmps24
  go_wp2_with fail
  generalize hW : w.alloc _ = w0
  obtain ⟨A0, hB⟩ := blk1 hW
  clear hW
  refine (heldTurner_any _ r.turner B k0 _ (Nat.le_trans hB0 hB.size) (turnE.rd_of (hB.mono hB0) T2.out) M1.out (by omega) (by have := HC.out; omega)).mono ?_
  rintro e w1 ⟨rfl, b⟩
  have A1 := A0.of b A0.lt
  have hB1 := hB.trans (b.mono hB.size)
  clear b A0 hB
  obtain ⟨q0, hq⟩ : ∃ q : Int, q = k0 + (turnM.cnt r.turner : Int) := ⟨_, rfl⟩
  rw [← hq] at M2 ⊢
  have g0 : 0 < q0 := by omega
  have t0 : ¬ q0 < 0 := by omega
  have HQ0 := Lib.hid hq; clear hq
  have a3 := A1.cell 3 rfl
  go_wp2_with fail
  refine (heldStringSS_any _ r.out B q0 _ (Nat.le_trans hB0 hB1.size) (strssE.rd_of (hB1.mono hB0) H3.out) M2.out g0 (show q0 + ((listM strsM).cnt r.out : Int) ≤ 4611686018427387904 from by have := HC.out; have := HQ0.out; omega)).mono ?_
  rintro e w2 ⟨he, b⟩
  have he : e = .returned (.int .i64 (q0 + ((listM strsM).cnt r.out : Int))) := he
  have hB2 := hB1.trans (b.mono hB1.size)
  clear b a3 A1 hB1
  obtain ⟨q1, hq⟩ : ∃ q : Int, q = q0 + ((listM strsM).cnt r.out : Int) := ⟨_, rfl⟩
  rw [← hq] at he
  subst he
  have t1 : ¬ q1 < 0 := by omega
  have HQ1 := Lib.hid hq; clear hq
  go_wp2
  go_ret
  have hw : writM.cnt r = turnM.cnt r.turner + (listM strsM).cnt r.out := rfl
  exact ⟨ret_k_ret (by rw [hw]; have := HQ0.out; have := HQ1.out; omega), hB2⟩

end Go.Proofs.YtcifdkliiljmkaaGreatDoor
