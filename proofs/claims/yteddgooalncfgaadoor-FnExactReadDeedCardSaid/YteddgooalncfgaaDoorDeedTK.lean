/-
  DeedText of the reference (written by a program of this claim's own, gen_dec.py).
-/
import Derived.Test.YteddgooalncfgaaDoorDeedWK
namespace Go.Proofs.YteddgooalncfgaaDoor
open Go.RowKit

set_option maxHeartbeats 4000000 in
set_option maxRecDepth 100000 in
theorem specDeedText_any (d : Deed) (w : World) : Calls Tryd.prog 5 #[.agg #[.int .i64 d.kind, .int .i64 d.a, .int .i64 d.b]] w (Gives (.string (deedText d)) w) := by
  cases hv : validDeed d
  case false =>
    have hres : deedText d = ⟨#[]⟩ := by unfold deedText; rw [hv]; rfl
    have HRES := Lib.hid hres; have HV := Lib.hid hv
    clear hres hv
    go_enter Tryd.func5, Tryd.ntmps5
    go_wp2_with fail
    generalize hW : w.alloc _ = w0
    obtain ⟨A0, B0⟩ := blk1 hW
    clear hW
    have hvd := Lib.hid (specValidDeed_any d w0)
    refine hvd.out.mono ?_
    rintro e w1 ⟨rfl, b1⟩
    rw [HV.out]
    have B1 := B0.trans (b1.mono B0.size)
    clear b1 hvd
    go_wp2
    go_ret
    exact ⟨by rw [HRES.out]; rfl, B1⟩
  have hv' := hv
  unfold validDeed at hv'
  rw [Bool.and_eq_true, Bool.and_eq_true, Bool.and_eq_true] at hv'
  have v1 := within_true.1 hv'.1
  have v2 := within_true.1 hv'.2.1
  have v3 := within_true.1 hv'.2.2.1
  obtain ⟨K, hK⟩ : ∃ K : Nat, d.kind = K := ⟨d.kind.toNat, by omega⟩
  obtain ⟨a, ha⟩ : ∃ a : Nat, d.a = a := ⟨d.a.toNat, by omega⟩
  obtain ⟨b, hb⟩ : ∃ b : Nat, d.b = b := ⟨d.b.toNat, by omega⟩
  have hres : deedText d = if hasTwo (K : Int) then deedWord K ++ numsB [a, b] else deedWord K ++ numsB [a] := by
    unfold deedText; rw [hv, if_pos rfl, hK, ha, hb]; rfl
  have HRES := Lib.hid hres; have HV := Lib.hid hv
  have hvd := fun w0 => Lib.hid (specValidDeed_any d w0)
  rw [hK, ha, hb] at hvd ⊢
  have K0 : (0 : Int) ≤ (K : Int) := by omega
  have K9 : (K : Int) < 9 := by omega
  have K9n : K < 9 := by omega
  have ha9 : a ≤ 999 := by omega
  have hb9 : b ≤ 999 := by omega
  clear hres hv hv' v1 v2 v3 hK ha hb
  obtain ⟨wd, hwd⟩ : ∃ x, x = deedWord K := ⟨_, rfl⟩
  have hat := deedWs_at K K9n
  rw [← hwd] at hat
  have z1 : wd.size ≤ 7 := by rw [hwd]; exact deedWord_size K
  have HWD := Lib.hid hwd; have HAT := Lib.hid hat
  clear hwd hat
  have n1 : numsB [a] = ⟨#[32]⟩ ++ decB a := by unfold numsB; apply ByteArray.ext; simp
  have n2 : numsB [a, b] = (⟨#[32]⟩ ++ decB a) ++ (⟨#[32]⟩ ++ decB b) := by unfold numsB; apply ByteArray.ext; simp
  have HN1 := Lib.hid n1; have HN2 := Lib.hid n2
  clear n1 n2
  have z2 : (decB a).size ≤ 19 := decB_le (by omega)
  have z3 : (decB b).size ≤ 19 := decB_le (by omega)
  have hdA := fun w0 => Lib.hid (specDecimal_any a (by omega) w0)
  have hdB := fun w0 => Lib.hid (specDecimal_any b (by omega) w0)
  obtain ⟨da, hda⟩ : ∃ x, x = decB a := ⟨_, rfl⟩
  obtain ⟨db, hdb⟩ : ∃ x, x = decB b := ⟨_, rfl⟩
  rw [← hda] at hdA z2
  rw [← hdb] at hdB z3
  have HDA := Lib.hid hda; have HDB := Lib.hid hdb
  clear hda hdb
  have s1 : ¬ (9223372036854775807 < wd.size + 1) := by omega
  have s2 : ¬ (9223372036854775807 < wd.size + 1 + da.size) := by omega
  have s3 : ¬ (9223372036854775807 < 1 + db.size) := by omega
  have s4 : ¬ (9223372036854775807 < wd.size + 1 + da.size + (1 + db.size)) := by omega
  clear z1 z2 z3
  go_enter Tryd.func5, Tryd.ntmps5
  go_wp2_with fail
  generalize hW : w.alloc _ = w0
  obtain ⟨A0, B0⟩ := blk1 hW
  clear hW
  refine (hvd w0).out.mono ?_
  rintro e w1 ⟨rfl, b1⟩
  rw [HV.out]
  have B1 := B0.trans (b1.mono B0.size)
  have A1 := A0.of b1 A0.lt
  clear b1 hvd B0 A0
  go_upto_region 3 with fail
  have k1 : ((w1).cell? ⟨w.heap.size, 0, none⟩ = some (.int .i64 K) ∧ (w1).cell? ⟨w.heap.size, 1, none⟩ = some (.int .i64 a) ∧ (w1).cell? ⟨w.heap.size, 2, none⟩ = some (.int .i64 b)) := ⟨A1.cell 0 rfl, A1.cell 1 rfl, A1.cell 2 rfl⟩
  have k1d : ((World.drew w1).cell? ⟨w.heap.size, 0, none⟩ = some (.int .i64 K) ∧ (World.drew w1).cell? ⟨w.heap.size, 1, none⟩ = some (.int .i64 a) ∧ (World.drew w1).cell? ⟨w.heap.size, 2, none⟩ = some (.int .i64 b)) := k1
  have HA1 := Lib.hid A1; have la := A1.lt
  clear A1
  go_region_law (first
      | (go_simp; go_at_call 13
         with_reducible show Calls _ _ _ w2 _
         refine (hdA w2).out.mono ?_
         rintro e w3 ⟨rfl, b3⟩
         have A3 : Blk w3 w.heap.size _ _ := HA2.out.of b3 la2
         have Q3 : Blk w3 q _ _ := HQ2.out.of b3 lq2
         have k3 : ((w3).cell? ⟨w.heap.size, 0, none⟩ = some (.int .i64 K) ∧ (w3).cell? ⟨w.heap.size, 1, none⟩ = some (.int .i64 a) ∧ (w3).cell? ⟨w.heap.size, 2, none⟩ = some (.int .i64 b)) := ⟨A3.cell 0 rfl, A3.cell 1 rfl, A3.cell 2 rfl⟩
         have c3 := Q3.cell K HAT.out
         have B3 : Below w.heap.size w w3 := BB2.trans (b3.mono BB2.size)
         clear A3 Q3 b3)
      | (go_simp; go_at_call 12
         refine (l08Words_any _).mono ?_
         rintro e w2 ⟨q, rfl, hq, lo, b2⟩
         have A2 : Blk w2 w.heap.size _ _ := Blk.of (w := World.drew w1) HA1.out b2 la
         have k2 : ((w2).cell? ⟨w.heap.size, 0, none⟩ = some (.int .i64 K) ∧ (w2).cell? ⟨w.heap.size, 1, none⟩ = some (.int .i64 a) ∧ (w2).cell? ⟨w.heap.size, 2, none⟩ = some (.int .i64 b)) := ⟨A2.cell 0 rfl, A2.cell 1 rfl, A2.cell 2 rfl⟩
         have c2 := hq.cell K HAT.out
         have BB2 : Below w.heap.size w w2 := B1.drew.trans (b2.mono B1.size)
         have la2 := A2.lt
         have lq2 := hq.lt
         have HA2 := Lib.hid A2
         have HQ2 := Lib.hid hq
         clear A2 hq b2 lo))
  all_goals
    cases h2 : hasTwo (K : Int)
    case false =>
      have H2 := Lib.hid h2; clear h2
      have r1 : deedText d = wd ++ ⟨#[32]⟩ ++ da := by rw [HRES.out, H2.out, if_neg (by decide), HN1.out, ← HWD.out, ← HDA.out, ByteArray.append_assoc]
      have R1 := Lib.hid r1; clear r1
      go_wp2_with fail
      refine (l08Two_is false _ _ H2.out).mono ?_
      rintro e w4 ⟨rfl, rfl⟩
      go_wp2
      go_ret
      exact ⟨by rw [R1.out]; rfl, B3⟩
    case true =>
      have H2 := Lib.hid h2; clear h2
      have r1 : deedText d = wd ++ ⟨#[32]⟩ ++ da ++ (⟨#[32]⟩ ++ db) := by
        rw [HRES.out, H2.out, if_pos rfl, HN2.out, ← HWD.out, ← HDA.out, ← HDB.out]
        simp only [ByteArray.append_assoc]
      have R1 := Lib.hid r1; clear r1
      go_wp2_with fail
      refine (l08Two_is true _ _ H2.out).mono ?_
      rintro e w4 ⟨rfl, rfl⟩
      go_wp2_with fail
      refine (hdB _).out.mono ?_
      rintro e w5 ⟨rfl, b5⟩
      have B5 := B3.trans (b5.mono B3.size)
      go_wp2
      go_ret
      exact ⟨by rw [R1.out]; rfl, B5⟩

end Go.Proofs.YteddgooalncfgaaDoor
