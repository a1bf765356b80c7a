/-
  The contracts of the laws' own toReader and szReader (written by a program of this claim's own, gen_structs.py).
-/
import Derived.Test.YtcifdkliiljmkaaGreatDoorLBoolSK
import Derived.Test.YtcifdkliiljmkaaGreatDoorLInt64SSK
namespace Go.Proofs.YtcifdkliiljmkaaGreatDoor
open Go.RowKit

/-- No list of it is longer than the laws let by. -/
def okReader (r : Reader) : Prop := r.accept.length ≤ 1048576 ∧ r.next.length ≤ 1048576 ∧ (∀ x, x ∈ r.next → x.length ≤ 1048576)

/-- How much of it the laws count. -/
def totReader (r : Reader) : Nat := (r.accept.length) + (r.next.length + sumLen r.next)

theorem ok_of_totReader {r : Reader} (h : ¬ 1048576 < totReader r) : okReader r := by
  unfold totReader at h
  exact ⟨by omega, by omega, fun x hx => by have := sumLen_mem _ _ hx; omega⟩

set_option maxHeartbeats 1000000 in
theorem toReader_any (cs : List Value) (r : Reader) (B : Nat) (w : World) (hB0 : B ≤ w.heap.size) (h : readE.rd w B cs r) (hok : okReader r) :
    Calls Tryz.prog 9 #[.agg cs.toArray] w (MakesS readE id r w) := by
  obtain ⟨v2, v3, rfl, b0, b1, h2, h3⟩ := rd_Reader h
  obtain ⟨n2a, n3a, n3b⟩ := hok
  have N2A := Lib.hid n2a; clear n2a
  have N3A := Lib.hid n3a; clear n3a
  have N3B := Lib.hid n3b; clear n3b
  obtain ⟨s2, l2, c2, rfl⟩ := rd_slice h2
  have H2 := Lib.hid h2; clear h2
  obtain ⟨s3, l3, c3, rfl⟩ := rd_slice h3
  have H3 := Lib.hid h3; clear h3
  clear h
  go_enter Tryz.func9, Tryz.ntmps9
  go_wp2_with fail
  generalize hW : (((w.alloc _).alloc _).alloc _ : World) = w3
  obtain ⟨A0, A1, A2, hB⟩ := blk3 hW
  clear hW
  obtain ⟨g, hg⟩ : ∃ g, g = w.heap.size := ⟨_, rfl⟩
  rw [← hg] at hB A0 A1 A2 hB0 ⊢
  have Hg := Lib.hid hg; clear hg
  have S2 := A2.lt
  refine (toBoolS_any _ _ g _ (boolsE.rd_of hB (boolsE.rd_mono hB0 H2.out)) N2A.out).mono ?_
  rintro e x2 ⟨v2, f2, rfl, o2, d2, hge, hbl⟩
  obtain ⟨t2, u2, y2, rfl⟩ := ow_slice o2
  have G2 := Lib.hid (fun b (hb : b ∈ f2) => (show g + 1 + 1 < b from by have := hge b hb; omega))
  have D2 := Lib.hid d2; clear d2
  have O2 := Lib.hid o2; clear o2
  have B1 := hB.trans (hbl.mono (by omega))
  have A0 := A0.of hbl A0.lt
  have A1 := A1.of hbl A1.lt
  have A2 := A2.of hbl A2.lt
  clear hB hge hbl
  have p0 := A2.free 2
  have p1 := A2.cell 2 rfl
  have p2 := A0.cell 3 rfl
  have HA0 := Lib.hid A0; clear A0
  have HA1 := Lib.hid A1; clear A1
  have HA2 := Lib.hid A2; clear A2
  have HB1 := Lib.hid B1; clear B1
  go_wp2_with fail
  clear p0 p1 p2
  generalize hW : x2.setCell ⟨g + 1 + 1, 2, none⟩ (.slice t2 u2 y2) = z2 at *
  have A0 := hW ▸ HA0.out.other (a := ⟨g + 1 + 1, 2, none⟩) (by simp; omega) (.slice t2 u2 y2)
  have A1 := hW ▸ HA1.out.other (a := ⟨g + 1 + 1, 2, none⟩) (by simp) (.slice t2 u2 y2)
  have A2 := hW ▸ HA2.out.set 2 (.slice t2 u2 y2)
  have hB := hW ▸ HB1.out.setCell (p := ⟨g + 1 + 1, 2, none⟩) (by simp; omega) (.slice t2 u2 y2)
  have O2 := Lib.hid (hW ▸ boolsE.ow_frame (w' := x2.setCell ⟨g + 1 + 1, 2, none⟩ (.slice t2 u2 y2)) (fun b hb => Below.heap_setCell _ _ _ _ (by have := G2.out b hb; simp; omega)) O2.out)
  clear hW HA0 HA1 HA2 HB1 S2
  have S3 := A2.lt
  have U2 := Lib.hid (boolsE.ow_lt O2.out)
  refine (toInt64SS_any _ _ g _ (by omega) (intssE.rd_of hB (intssE.rd_mono hB0 H3.out)) N3A.out N3B.out).mono ?_
  rintro e x3 ⟨v3, f3, rfl, o3, d3, hge, hbl⟩
  obtain ⟨t3, u3, y3, rfl⟩ := ow_slice o3
  have J23 := Lib.hid (fun a (ha : a ∈ f2) b (hb : b ∈ f3) => Nat.lt_of_lt_of_le (U2.out a ha) (hge b hb))
  clear U2
  have O2 := Lib.hid (boolsE.ow_of hbl O2.out)
  have G3 := Lib.hid (fun b (hb : b ∈ f3) => (show g + 1 + 1 < b from by have := hge b hb; omega))
  have D3 := Lib.hid d3; clear d3
  have O3 := Lib.hid o3; clear o3
  have B1 := hB.trans (hbl.mono (by omega))
  have A0 := A0.of hbl A0.lt
  have A1 := A1.of hbl A1.lt
  have A2 := A2.of hbl A2.lt
  clear hB hge hbl
  have p0 := A2.free 3
  have p1 := A2.cell 3 rfl
  have q0 := A2.cell 0 rfl
  have r0 := A1.free 0
  have r0c := A1.cell 0 rfl
  have q1 := A2.cell 1 rfl
  have r1 := A1.free 1
  have r1c := A1.cell 1 rfl
  have q2 := A2.cell 2 rfl
  have r2 := A1.free 2
  have r2c := A1.cell 2 rfl
  have r3 := A1.free 3
  have r3c := A1.cell 3 rfl
  have HA1 := Lib.hid A1; clear A1
  have HB1 := Lib.hid B1; clear B1
  have S2 := A2.lt
  clear A0 A2
  go_wp2_with fail
  have A1 := (((((HA1.out.other (a := ⟨g + 1 + 1, 3, none⟩) (by simp) (.slice t3 u3 y3)).set 0 (.int .i64 r.letters)).set 1 (.int .i64 r.start)).set 2 (.slice t2 u2 y2)).set 3 (.slice t3 u3 y3))
  have hbut := ((((((But.refl [g + 1, g + 1 + 1] x3).setCell (a := ⟨g + 1 + 1, 3, none⟩) (by simp) (.slice t3 u3 y3)).setCell (a := ⟨g + 1, 0, none⟩) (by simp) (.int .i64 r.letters)).setCell (a := ⟨g + 1, 1, none⟩) (by simp) (.int .i64 r.start)).setCell (a := ⟨g + 1, 2, none⟩) (by simp) (.slice t2 u2 y2)).setCell (a := ⟨g + 1, 3, none⟩) (by simp) (.slice t3 u3 y3))
  generalize ((((x3.setCell ⟨g + 1 + 1, 3, none⟩ (.slice t3 u3 y3)).setCell ⟨g + 1, 0, none⟩ (.int .i64 r.letters)).setCell ⟨g + 1, 1, none⟩ (.int .i64 r.start)).setCell ⟨g + 1, 2, none⟩ (.slice t2 u2 y2)).setCell ⟨g + 1, 3, none⟩ (.slice t3 u3 y3) = wf at *
  have a0 := A1.cell 0 rfl
  have a1 := A1.cell 1 rfl
  have a2 := A1.cell 2 rfl
  have a3 := A1.cell 3 rfl
  refine bodyPost_ret (v := .agg #[.int .i64 r.letters, .int .i64 r.start, .slice t2 u2 y2, .slice t3 u3 y3]) ?_ rfl ?_
  · simp [results, Tryz.results9, go_sem, a0, a1, a2, a3]
  · have o2 := boolsE.ow_but O2.out hbut (fun b hb => by have := G2.out b hb; simp; omega)
    have o3 := intssE.ow_but O3.out hbut (fun b hb => by have := G3.out b hb; simp; omega)
    refine ⟨_, _, rfl, ow_Reader b0 b1 o2 o3, List.nodup_append.2 ⟨D2.out, D3.out, fun a ha b hb => by have := J23.out a ha b hb; omega⟩, ?_, ?_⟩
    · intro b hb
      rw [← Hg.out]
      rcases List.mem_append.1 hb with hb | hb
      · have := G2.out b hb; omega
      · have := G3.out b hb; omega
    · rw [← Hg.out]
      exact HB1.out.trans (hbut.below (by intro b hb; simp at hb; omega) (by omega))

set_option maxHeartbeats 400000 in
theorem szReader_any (cs : List Value) (r : Reader) (B : Nat) (w : World) (left : Int) (hB0 : B ≤ w.heap.size) (h : readE.rd w B cs r) (h0 : 0 ≤ left) (h1 : left ≤ 1048576) :
    Calls Tryz.prog 6 #[.agg cs.toArray, .int .i64 left] w (Gives (.int .i64 (lim (totReader r) left)) w) := by
  obtain ⟨v2, v3, rfl, -, -, h2, h3⟩ := rd_Reader h
  obtain ⟨s2, l2, c2, rfl⟩ := rd_slice h2
  have H2 := Lib.hid h2; clear h2
  obtain ⟨s3, l3, c3, rfl⟩ := rd_slice h3
  have H3 := Lib.hid h3; clear h3
  have HT : Hid (totReader r = (r.accept.length) + (r.next.length + sumLen r.next)) := Lib.hid rfl
  clear h
  go_enter Tryz.func6, Tryz.ntmps6
  go_wp2_with fail
  generalize hW : w.alloc _ = w1
  obtain ⟨A0, hB⟩ := blk1 hW
  clear hW
  refine (szBoolS_any _ r.accept w.heap.size _ _ (boolsE.rd_of hB (boolsE.rd_mono hB0 H2.out)) h0 h1).mono ?_
  rintro e x2 ⟨rfl, hbl⟩
  have B1 := hB.trans (hbl.mono hB.size)
  have A1 := A0.of hbl A0.lt
  clear hbl hB A0
  obtain ⟨z2, hz⟩ : ∃ z : Nat, z = r.accept.length := ⟨_, rfl⟩
  rw [← hz]
  have HZ2 := Lib.hid hz; clear hz
  by_cases hx : left < (z2 : Nat)
  · rw [lim_of_lt hx]
    have hr := Lib.hid (lim_of_lt (t := totReader r) (left := left) (by have := HT.out; have := HZ2.out; omega))
    go_wp2
    go_ret
    exact ⟨by rw [hr.out]; rfl, B1⟩
  rw [lim_of_ge hx]
  obtain ⟨q12, hq⟩ : ∃ q : Int, q = left - (z2 : Nat) := ⟨_, rfl⟩
  rw [← hq]
  have q0 : 0 ≤ q12 := by omega
  have q1 : q12 ≤ 1048576 := by omega
  have ht : ¬ q12 < 0 := by omega
  have HQ : Hid (q12 = left - ((z2 : Nat) : Int)) := Lib.hid (by omega)
  have p0 := A1.cell 3 rfl
  have HA1 := Lib.hid A1; clear A1
  clear hq hx
  go_wp2_with fail
  have A0 := HA1.out
  have hB := B1
  clear p0 ht HA1 B1
  refine (szInt64SS_any _ r.next w.heap.size _ _ hB.size (intssE.rd_of hB (intssE.rd_mono hB0 H3.out)) q0 q1).mono ?_
  rintro e x3 ⟨rfl, hbl⟩
  have B1 := hB.trans (hbl.mono hB.size)
  have A1 := A0.of hbl A0.lt
  clear hbl hB A0
  obtain ⟨z3, hz⟩ : ∃ z : Nat, z = r.next.length + sumLen r.next := ⟨_, rfl⟩
  rw [← hz]
  have HZ3 := Lib.hid hz; clear hz
  by_cases hx : q12 < (z3 : Nat)
  · rw [lim_of_lt hx]
    have hr := Lib.hid (lim_of_lt (t := totReader r) (left := left) (by have := HT.out; have := HZ2.out; have := HZ3.out; have := HQ.out; omega))
    go_wp2
    go_ret
    exact ⟨by rw [hr.out]; rfl, B1⟩
  rw [lim_of_ge hx]
  have hr : Hid (lim (totReader r) left = q12 - (z3 : Nat)) := Lib.hid (by have := HT.out; have := HZ2.out; have := HZ3.out; have := HQ.out; rw [lim_of_ge (by omega)]; omega)
  have ht : ¬ q12 - (z3 : Int) < 0 := by omega
  go_wp2
  go_ret
  exact ⟨by rw [hr.out]; rfl, B1⟩

end Go.Proofs.YtcifdkliiljmkaaGreatDoor
