/-
  The contracts of the laws' own toTurner and szTurner (written by a program of this claim's own, gen_structs.py).
-/
import Derived.Test.YtnkhgfdlehhjmaaDoorLMoveSSK
namespace Go.Proofs.YtnkhgfdlehhjmaaDoor
open Go.RowKit

/-- No list of it is longer than the laws let by. -/
def okTurner (r : Turner) : Prop := r.moves.length ≤ 1048576 ∧ (∀ x, x ∈ r.moves → x.length ≤ 1048576)

/-- How much of it the laws count. -/
def totTurner (r : Turner) : Nat := (r.moves.length + sumLen r.moves)

theorem ok_of_totTurner {r : Turner} (h : ¬ 1048576 < totTurner r) : okTurner r := by
  unfold totTurner at h
  exact ⟨by omega, fun x hx => by have := sumLen_mem _ _ hx; omega⟩

set_option maxHeartbeats 1000000 in
theorem toTurner_any (cs : List Value) (r : Turner) (B : Nat) (w : World) (hB0 : B ≤ w.heap.size) (h : turnE.rd w B cs r) (hok : okTurner r) :
    Calls Tryd.prog 18 #[.agg cs.toArray] w (MakesS turnE id r w) := by
  obtain ⟨v2, rfl, b0, b1, h2⟩ := rd_Turner h
  obtain ⟨n2a, n2b⟩ := hok
  have N2A := Lib.hid n2a; clear n2a
  have N2B := Lib.hid n2b; clear n2b
  obtain ⟨s2, l2, c2, rfl⟩ := rd_slice h2
  have H2 := Lib.hid h2; clear h2
  clear h
  go_enter Tryd.func18, Tryd.ntmps18
  go_wp2_with fail
  generalize hW : (((w.alloc _).alloc _).alloc _ : World) = w3
  obtain ⟨A0, A1, A2, hB⟩ := blk3 hW
  clear hW
  obtain ⟨g, hg⟩ : ∃ g, g = w.heap.size := ⟨_, rfl⟩
  rw [← hg] at hB A0 A1 A2 hB0 ⊢
  have Hg := Lib.hid hg; clear hg
  have S2 := A2.lt
  refine (toMoveSS_any _ _ g _ (by omega) (movessE.rd_of hB (movessE.rd_mono hB0 H2.out)) N2A.out N2B.out).mono ?_
  rintro e x2 ⟨v2, f2, rfl, o2, d2, hge, hbl⟩
  obtain ⟨t2, u2, y2, rfl⟩ := ow_slice o2
  have G2 := Lib.hid (fun b (hb : b ∈ f2) => (show g + 1 + 1 < b from by have := hge b hb; omega))
  have D2 := Lib.hid d2; clear d2
  have O2 := Lib.hid o2; clear o2
  have B1 := hB.trans (hbl.mono (by omega))
  have A0 := A0.of hbl A0.lt
  have A1 := A1.of hbl A1.lt
  have A2 := A2.of hbl A2.lt
  clear hB hge hbl
  have p0 := A2.free 2
  have p1 := A2.cell 2 rfl
  have q0 := A2.cell 0 rfl
  have r0 := A1.free 0
  have r0c := A1.cell 0 rfl
  have q1 := A2.cell 1 rfl
  have r1 := A1.free 1
  have r1c := A1.cell 1 rfl
  have r2 := A1.free 2
  have r2c := A1.cell 2 rfl
  have HA1 := Lib.hid A1; clear A1
  have HB1 := Lib.hid B1; clear B1
  have S2 := A2.lt
  clear A0 A2
  go_wp2_with fail
  have A1 := ((((HA1.out.other (a := ⟨g + 1 + 1, 2, none⟩) (by simp) (.slice t2 u2 y2)).set 0 (.int .i64 r.letters)).set 1 (.int .i64 r.start)).set 2 (.slice t2 u2 y2))
  have hbut := (((((But.refl [g + 1, g + 1 + 1] x2).setCell (a := ⟨g + 1 + 1, 2, none⟩) (by simp) (.slice t2 u2 y2)).setCell (a := ⟨g + 1, 0, none⟩) (by simp) (.int .i64 r.letters)).setCell (a := ⟨g + 1, 1, none⟩) (by simp) (.int .i64 r.start)).setCell (a := ⟨g + 1, 2, none⟩) (by simp) (.slice t2 u2 y2))
  generalize (((x2.setCell ⟨g + 1 + 1, 2, none⟩ (.slice t2 u2 y2)).setCell ⟨g + 1, 0, none⟩ (.int .i64 r.letters)).setCell ⟨g + 1, 1, none⟩ (.int .i64 r.start)).setCell ⟨g + 1, 2, none⟩ (.slice t2 u2 y2) = wf at *
  have a0 := A1.cell 0 rfl
  have a1 := A1.cell 1 rfl
  have a2 := A1.cell 2 rfl
  refine bodyPost_ret (v := .agg #[.int .i64 r.letters, .int .i64 r.start, .slice t2 u2 y2]) ?_ rfl ?_
  · simp [results, Tryd.results18, go_sem, a0, a1, a2]
  · have o2 := movessE.ow_but O2.out hbut (fun b hb => by have := G2.out b hb; simp; omega)
    refine ⟨_, _, rfl, ow_Turner b0 b1 o2, D2.out, ?_, ?_⟩
    · intro b hb
      rw [← Hg.out]
      have := G2.out b hb; omega
    · rw [← Hg.out]
      exact HB1.out.trans (hbut.below (by intro b hb; simp at hb; omega) (by omega))

set_option maxHeartbeats 400000 in
theorem szTurner_any (cs : List Value) (r : Turner) (B : Nat) (w : World) (left : Int) (hB0 : B ≤ w.heap.size) (h : turnE.rd w B cs r) (h0 : 0 ≤ left) (h1 : left ≤ 1048576) :
    Calls Tryd.prog 14 #[.agg cs.toArray, .int .i64 left] w (Gives (.int .i64 (lim (totTurner r) left)) w) := by
  obtain ⟨v2, rfl, -, -, h2⟩ := rd_Turner h
  obtain ⟨s2, l2, c2, rfl⟩ := rd_slice h2
  have H2 := Lib.hid h2; clear h2
  have HT : Hid (totTurner r = (r.moves.length + sumLen r.moves)) := Lib.hid rfl
  clear h
  go_enter Tryd.func14, Tryd.ntmps14
  go_wp2_with fail
  generalize hW : w.alloc _ = w1
  obtain ⟨A0, hB⟩ := blk1 hW
  clear hW
  refine (szMoveSS_any _ r.moves w.heap.size _ _ hB.size (movessE.rd_of hB (movessE.rd_mono hB0 H2.out)) h0 h1).mono ?_
  rintro e x2 ⟨rfl, hbl⟩
  have B1 := hB.trans (hbl.mono hB.size)
  have A1 := A0.of hbl A0.lt
  clear hbl hB A0
  obtain ⟨z2, hz⟩ : ∃ z : Nat, z = r.moves.length + sumLen r.moves := ⟨_, rfl⟩
  rw [← hz]
  have HZ2 := Lib.hid hz; clear hz
  by_cases hx : left < (z2 : Nat)
  · rw [lim_of_lt hx]
    have hr := Lib.hid (lim_of_lt (t := totTurner r) (left := left) (by have := HT.out; have := HZ2.out; omega))
    go_wp2
    go_ret
    exact ⟨by rw [hr.out]; rfl, B1⟩
  rw [lim_of_ge hx]
  have hr : Hid (lim (totTurner r) left = left - (z2 : Nat)) := Lib.hid (by have := HT.out; have := HZ2.out; rw [lim_of_ge (by omega)]; omega)
  have ht : ¬ left - (z2 : Int) < 0 := by omega
  go_wp2
  go_ret
  exact ⟨by rw [hr.out]; rfl, B1⟩

end Go.Proofs.YtnkhgfdlehhjmaaDoor
