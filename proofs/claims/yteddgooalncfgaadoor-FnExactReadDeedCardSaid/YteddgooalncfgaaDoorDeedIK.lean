/-
  DeedText of the program (written by a program of this claim's own, gen_dec.py).
-/
import Derived.Test.YteddgooalncfgaaDoorDeedWK
namespace Go.Proofs.YteddgooalncfgaaDoor
open Go.RowKit

set_option maxHeartbeats 4000000 in
set_option maxRecDepth 100000 in
theorem implDeedText_any (d : Deed) (m : Int) (w : World) (hM : MaxIs m w.heap.size w) (hT : Pow10 w.heap.size w) : Calls Tryd.prog 7 #[.agg #[.int .i64 d.kind, .int .i64 d.a, .int .i64 d.b]] w (Gives (.string (deedText d)) w) := by
  cases hv : validDeed d
  case false =>
    have hres : deedText d = ⟨#[]⟩ := by unfold deedText; rw [hv]; rfl
    have HRES := Lib.hid hres; have HV := Lib.hid hv
    clear hres hv
    go_enter Tryd.func7, Tryd.ntmps7
    go_wp2_with fail
    generalize hW : w.alloc _ = w0
    obtain ⟨A0, B0⟩ := blk1 hW
    clear hW
    have hvd := Lib.hid (validDeed_any d w0)
    refine hvd.out.mono ?_
    rintro e w1 ⟨rfl, b1⟩
    rw [HV.out]
    have B1 := B0.trans (b1.mono B0.size)
    clear b1 hvd
    go_wp2
    go_ret
    exact ⟨by rw [HRES.out]; rfl, B1⟩
  have hv' := hv
  unfold validDeed at hv'
  rw [Bool.and_eq_true, Bool.and_eq_true, Bool.and_eq_true] at hv'
  have v1 := within_true.1 hv'.1
  have v2 := within_true.1 hv'.2.1
  have v3 := within_true.1 hv'.2.2.1
  obtain ⟨K, hK⟩ : ∃ K : Nat, d.kind = K := ⟨d.kind.toNat, by omega⟩
  obtain ⟨a, ha⟩ : ∃ a : Nat, d.a = a := ⟨d.a.toNat, by omega⟩
  obtain ⟨b, hb⟩ : ∃ b : Nat, d.b = b := ⟨d.b.toNat, by omega⟩
  have hres : deedText d = if hasTwo (K : Int) then deedWord K ++ numsB [a, b] else deedWord K ++ numsB [a] := by
    unfold deedText; rw [hv, if_pos rfl, hK, ha, hb]; rfl
  have HRES := Lib.hid hres; have HV := Lib.hid hv
  have hvd := fun w0 => Lib.hid (validDeed_any d w0)
  rw [hK, ha, hb] at hvd ⊢
  have K0 : (0 : Int) ≤ (K : Int) := by omega
  have K9 : (K : Int) < 9 := by omega
  have K9n : K < 9 := by omega
  have ha9 : a ≤ 999 := by omega
  have hb9 : b ≤ 999 := by omega
  clear hres hv hv' v1 v2 v3 hK ha hb
  obtain ⟨wd, hwd⟩ : ∃ x, x = deedWord K := ⟨_, rfl⟩
  have hat := deedWs_at K K9n
  rw [← hwd] at hat
  have z1 : wd.size ≤ 7 := by rw [hwd]; exact deedWord_size K
  have HWD := Lib.hid hwd; have HAT := Lib.hid hat
  clear hwd hat
  have n1 : numsB [a] = ⟨#[32]⟩ ++ decB a := by unfold numsB; apply ByteArray.ext; simp
  have n2 : numsB [a, b] = (⟨#[32]⟩ ++ decB a) ++ (⟨#[32]⟩ ++ decB b) := by unfold numsB; apply ByteArray.ext; simp
  have HN1 := Lib.hid n1; have HN2 := Lib.hid n2
  clear n1 n2
  have z2 : (decB a).size ≤ 19 := decB_le (by omega)
  have z3 : (decB b).size ≤ 19 := decB_le (by omega)
  have B0m := hM
  have HM := Lib.hid hM; have HT := Lib.hid hT
  clear B0m hM hT
  cases h2 : hasTwo (K : Int)
  case false =>
    have H2 := Lib.hid h2; clear h2
    have hbn : ∀ n, n ∈ [a] → n ≤ 9223372036854775807 := by intro n hn; simp at hn; omega
    have hnt := fun (q : Nat) (w' : World) (R : Blk w' q ([a].map fun n : Nat => Value.int .i64 (n : Int)) 2) (hT' : Pow10 w'.heap.size w') => Lib.hid (numbersText_any [a] 1 rfl (by decide) hbn q 1 w' R.lt (fun k n h => R.cell k (by rw [List.getElem?_map, h]; rfl)) hT')
    obtain ⟨nb, hnb⟩ : ∃ x, x = numsB [a] := ⟨_, rfl⟩
    have hnz : nb.size ≤ 40 := by rw [hnb]; have h := numsB_size [a] hbn 1 (Nat.le_refl _); have e : [a].take 1 = [a] := rfl; rw [e] at h; omega
    rw [← hnb] at hnt
    have r1 : deedText d = wd ++ nb := by rw [HRES.out, H2.out, if_neg (by decide), ← HWD.out, ← hnb]
    have R1 := Lib.hid r1
    clear r1 hbn hnb z2 z3
    have s1 : ¬ (9223372036854775807 < wd.size + nb.size) := by omega
    clear hnz z1
    go_enter Tryd.func7, Tryd.ntmps7
    go_wp2_with fail
    generalize hW : w.alloc _ = w0
    obtain ⟨A0, B0⟩ := blk1 hW
    clear hW
    refine (hvd w0).out.mono ?_
    rintro e w1 ⟨rfl, b1⟩
    rw [HV.out]
    have B1 := B0.trans (b1.mono B0.size)
    have A1 := A0.of b1 A0.lt
    clear b1 hvd B0 A0
    have k1 : ((w1).cell? ⟨w.heap.size, 0, none⟩ = some (.int .i64 K) ∧ (w1).cell? ⟨w.heap.size, 1, none⟩ = some (.int .i64 a) ∧ (w1).cell? ⟨w.heap.size, 2, none⟩ = some (.int .i64 b)) := ⟨A1.cell 0 rfl, A1.cell 1 rfl, A1.cell 2 rfl⟩
    have c0 := A1.cell 0 rfl
    go_wp2_with fail
    refine (hasTwo_is false _ _ H2.out).mono ?_
    rintro e w1' ⟨rfl, rfl⟩
    go_upto_region 5 with fail
    have k1d : ((World.drew w1).cell? ⟨w.heap.size, 0, none⟩ = some (.int .i64 K) ∧ (World.drew w1).cell? ⟨w.heap.size, 1, none⟩ = some (.int .i64 a) ∧ (World.drew w1).cell? ⟨w.heap.size, 2, none⟩ = some (.int .i64 b)) := k1
    have k1a : (((World.alloc w1 (.cells #[.int .i64 (a : Int)] 2))).cell? ⟨w.heap.size, 0, none⟩ = some (.int .i64 K) ∧ ((World.alloc w1 (.cells #[.int .i64 (a : Int)] 2))).cell? ⟨w.heap.size, 1, none⟩ = some (.int .i64 a) ∧ ((World.alloc w1 (.cells #[.int .i64 (a : Int)] 2))).cell? ⟨w.heap.size, 2, none⟩ = some (.int .i64 b)) := by have X := A1.alloc (.cells #[.int .i64 (a : Int)] 2); exact ⟨X.cell 0 rfl, X.cell 1 rfl, X.cell 2 rfl⟩
    have HA1 := Lib.hid A1; have la := A1.lt
    have AA := Lib.hid (A1.alloc (.cells #[.int .i64 (a : Int)] 2))
    have RR := Lib.hid (blk_list w1 ([a].map fun n : Nat => Value.int .i64 (n : Int)) 2)
    have BA := Lib.hid (B1.alloc B1.size (.cells #[.int .i64 (a : Int)] 2))
    clear A1 c0
    go_region_law (first
        | (go_simp; go_at_call 18
           with_reducible show Calls _ _ _ w2 _
           refine (hnt w1.heap.size w2 HR2.out ((HT.out.step BB2).up BB2.size)).out.mono ?_
           rintro e w3 ⟨rfl, b3⟩
           have A3 := HA2.out.of b3 la2
           have Q3 := HQ2.out.of b3 lq2
           have k3 : ((w3).cell? ⟨w.heap.size, 0, none⟩ = some (.int .i64 K) ∧ (w3).cell? ⟨w.heap.size, 1, none⟩ = some (.int .i64 a) ∧ (w3).cell? ⟨w.heap.size, 2, none⟩ = some (.int .i64 b)) := ⟨A3.cell 0 rfl, A3.cell 1 rfl, A3.cell 2 rfl⟩
           have c3 := Q3.cell K HAT.out
           have B3 : Below w.heap.size w w3 := BB2.trans (b3.mono BB2.size)
           clear A3 Q3 b3)
        | (go_simp; go_at_call 18
           with_reducible show Calls _ _ _ (World.alloc w2 _) _
           refine (hnt w2.heap.size (World.alloc w2 _) (blk_list w2 ([a].map fun n : Nat => Value.int .i64 (n : Int)) 2) ((HT.out.step (BB2.alloc BB2.size _)).up (BB2.alloc BB2.size _).size)).out.mono ?_
           rintro e w3 ⟨rfl, b3⟩
           have A3 := (HA2.out.alloc (.cells #[.int .i64 (a : Int)] 2)).of b3 (HA2.out.alloc _).lt
           have Q3 := (HQ2.out.alloc (.cells #[.int .i64 (a : Int)] 2)).of b3 (HQ2.out.alloc _).lt
           have k3 : ((w3).cell? ⟨w.heap.size, 0, none⟩ = some (.int .i64 K) ∧ (w3).cell? ⟨w.heap.size, 1, none⟩ = some (.int .i64 a) ∧ (w3).cell? ⟨w.heap.size, 2, none⟩ = some (.int .i64 b)) := ⟨A3.cell 0 rfl, A3.cell 1 rfl, A3.cell 2 rfl⟩
           have c3 := Q3.cell K HAT.out
           have B3 : Below w.heap.size w w3 := (BB2.alloc BB2.size _).trans (b3.mono (BB2.alloc BB2.size _).size)
           clear A3 Q3 b3)
        | (go_simp; go_at_call 17
           with_reducible show Calls _ _ #[] (World.drew (World.alloc w1 _)) _
           refine (deedWords_any m _ ((HM.out.step BA.out.drew).up BA.out.size)).mono ?_
           rintro e w2 ⟨q, rfl, hq, lo, b2⟩
           have A2 : Blk w2 w.heap.size _ _ := Blk.of (w := World.drew (World.alloc w1 (.cells #[.int .i64 (a : Int)] 2))) AA.out b2 AA.out.lt
           have R2 : Blk w2 w1.heap.size _ _ := Blk.of (w := World.drew (World.alloc w1 (.cells #[.int .i64 (a : Int)] 2))) RR.out b2 RR.out.lt
           have HR2 := Lib.hid R2
           have k2 : ((w2).cell? ⟨w.heap.size, 0, none⟩ = some (.int .i64 K) ∧ (w2).cell? ⟨w.heap.size, 1, none⟩ = some (.int .i64 a) ∧ (w2).cell? ⟨w.heap.size, 2, none⟩ = some (.int .i64 b)) := ⟨A2.cell 0 rfl, A2.cell 1 rfl, A2.cell 2 rfl⟩
           have c2 := hq.cell K HAT.out
           have BB2 : Below w.heap.size w w2 := BA.out.drew.trans (b2.mono BA.out.size)
           have la2 := A2.lt
           have lq2 := hq.lt
           have HA2 := Lib.hid A2
           have HQ2 := Lib.hid hq
           clear A2 R2 hq b2 lo)
        | (go_simp; go_at_call 17
           with_reducible show Calls _ _ #[] (World.drew w1) _
           refine (deedWords_any m _ ((HM.out.step B1.drew).up B1.size)).mono ?_
           rintro e w2 ⟨q, rfl, hq, lo, b2⟩
           have A2 : Blk w2 w.heap.size _ _ := Blk.of (w := World.drew w1) HA1.out b2 la
           have k2 : ((w2).cell? ⟨w.heap.size, 0, none⟩ = some (.int .i64 K) ∧ (w2).cell? ⟨w.heap.size, 1, none⟩ = some (.int .i64 a) ∧ (w2).cell? ⟨w.heap.size, 2, none⟩ = some (.int .i64 b)) := ⟨A2.cell 0 rfl, A2.cell 1 rfl, A2.cell 2 rfl⟩
           have k2a : (((World.alloc w2 (.cells #[.int .i64 (a : Int)] 2))).cell? ⟨w.heap.size, 0, none⟩ = some (.int .i64 K) ∧ ((World.alloc w2 (.cells #[.int .i64 (a : Int)] 2))).cell? ⟨w.heap.size, 1, none⟩ = some (.int .i64 a) ∧ ((World.alloc w2 (.cells #[.int .i64 (a : Int)] 2))).cell? ⟨w.heap.size, 2, none⟩ = some (.int .i64 b)) := by have X := A2.alloc (.cells #[.int .i64 (a : Int)] 2); exact ⟨X.cell 0 rfl, X.cell 1 rfl, X.cell 2 rfl⟩
           have c2 := hq.cell K HAT.out
           have c2a := (hq.alloc (.cells #[.int .i64 (a : Int)] 2)).cell K HAT.out
           have BB2 : Below w.heap.size w w2 := B1.drew.trans (b2.mono B1.size)
           have la2 := A2.lt
           have lq2 := hq.lt
           have HA2 := Lib.hid A2
           have HQ2 := Lib.hid hq
           clear A2 hq b2 lo))
    all_goals
      go_wp2
      go_ret
      exact ⟨by rw [R1.out]; rfl, B3⟩
  case true =>
    have H2 := Lib.hid h2; clear h2
    have hbn : ∀ n, n ∈ [a, b] → n ≤ 9223372036854775807 := by intro n hn; simp at hn; omega
    have hnt := fun (q : Nat) (w' : World) (R : Blk w' q ([a, b].map fun n : Nat => Value.int .i64 (n : Int)) 2) (hT' : Pow10 w'.heap.size w') => Lib.hid (numbersText_any [a, b] 2 rfl (by decide) hbn q 2 w' R.lt (fun k n h => R.cell k (by rw [List.getElem?_map, h]; rfl)) hT')
    obtain ⟨nb, hnb⟩ : ∃ x, x = numsB [a, b] := ⟨_, rfl⟩
    have hnz : nb.size ≤ 40 := by rw [hnb]; have h := numsB_size [a, b] hbn 2 (Nat.le_refl _); have e : [a, b].take 2 = [a, b] := rfl; rw [e] at h; omega
    rw [← hnb] at hnt
    have r1 : deedText d = wd ++ nb := by rw [HRES.out, H2.out, if_pos rfl, ← HWD.out, ← hnb]
    have R1 := Lib.hid r1
    clear r1 hbn hnb z2 z3
    have s1 : ¬ (9223372036854775807 < wd.size + nb.size) := by omega
    clear hnz z1
    go_enter Tryd.func7, Tryd.ntmps7
    go_wp2_with fail
    generalize hW : w.alloc _ = w0
    obtain ⟨A0, B0⟩ := blk1 hW
    clear hW
    refine (hvd w0).out.mono ?_
    rintro e w1 ⟨rfl, b1⟩
    rw [HV.out]
    have B1 := B0.trans (b1.mono B0.size)
    have A1 := A0.of b1 A0.lt
    clear b1 hvd B0 A0
    have k1 : ((w1).cell? ⟨w.heap.size, 0, none⟩ = some (.int .i64 K) ∧ (w1).cell? ⟨w.heap.size, 1, none⟩ = some (.int .i64 a) ∧ (w1).cell? ⟨w.heap.size, 2, none⟩ = some (.int .i64 b)) := ⟨A1.cell 0 rfl, A1.cell 1 rfl, A1.cell 2 rfl⟩
    have c0 := A1.cell 0 rfl
    go_wp2_with fail
    refine (hasTwo_is true _ _ H2.out).mono ?_
    rintro e w1' ⟨rfl, rfl⟩
    go_upto_region 4 with fail
    have k1d : ((World.drew w1).cell? ⟨w.heap.size, 0, none⟩ = some (.int .i64 K) ∧ (World.drew w1).cell? ⟨w.heap.size, 1, none⟩ = some (.int .i64 a) ∧ (World.drew w1).cell? ⟨w.heap.size, 2, none⟩ = some (.int .i64 b)) := k1
    have k1a : (((World.alloc w1 (.cells #[.int .i64 (a : Int), .int .i64 (b : Int)] 2))).cell? ⟨w.heap.size, 0, none⟩ = some (.int .i64 K) ∧ ((World.alloc w1 (.cells #[.int .i64 (a : Int), .int .i64 (b : Int)] 2))).cell? ⟨w.heap.size, 1, none⟩ = some (.int .i64 a) ∧ ((World.alloc w1 (.cells #[.int .i64 (a : Int), .int .i64 (b : Int)] 2))).cell? ⟨w.heap.size, 2, none⟩ = some (.int .i64 b)) := by have X := A1.alloc (.cells #[.int .i64 (a : Int), .int .i64 (b : Int)] 2); exact ⟨X.cell 0 rfl, X.cell 1 rfl, X.cell 2 rfl⟩
    have HA1 := Lib.hid A1; have la := A1.lt
    have AA := Lib.hid (A1.alloc (.cells #[.int .i64 (a : Int), .int .i64 (b : Int)] 2))
    have RR := Lib.hid (blk_list w1 ([a, b].map fun n : Nat => Value.int .i64 (n : Int)) 2)
    have BA := Lib.hid (B1.alloc B1.size (.cells #[.int .i64 (a : Int), .int .i64 (b : Int)] 2))
    clear A1 c0
    go_region_law (first
        | (go_simp; go_at_call 18
           with_reducible show Calls _ _ _ w2 _
           refine (hnt w1.heap.size w2 HR2.out ((HT.out.step BB2).up BB2.size)).out.mono ?_
           rintro e w3 ⟨rfl, b3⟩
           have A3 := HA2.out.of b3 la2
           have Q3 := HQ2.out.of b3 lq2
           have k3 : ((w3).cell? ⟨w.heap.size, 0, none⟩ = some (.int .i64 K) ∧ (w3).cell? ⟨w.heap.size, 1, none⟩ = some (.int .i64 a) ∧ (w3).cell? ⟨w.heap.size, 2, none⟩ = some (.int .i64 b)) := ⟨A3.cell 0 rfl, A3.cell 1 rfl, A3.cell 2 rfl⟩
           have c3 := Q3.cell K HAT.out
           have B3 : Below w.heap.size w w3 := BB2.trans (b3.mono BB2.size)
           clear A3 Q3 b3)
        | (go_simp; go_at_call 18
           with_reducible show Calls _ _ _ (World.alloc w2 _) _
           refine (hnt w2.heap.size (World.alloc w2 _) (blk_list w2 ([a, b].map fun n : Nat => Value.int .i64 (n : Int)) 2) ((HT.out.step (BB2.alloc BB2.size _)).up (BB2.alloc BB2.size _).size)).out.mono ?_
           rintro e w3 ⟨rfl, b3⟩
           have A3 := (HA2.out.alloc (.cells #[.int .i64 (a : Int), .int .i64 (b : Int)] 2)).of b3 (HA2.out.alloc _).lt
           have Q3 := (HQ2.out.alloc (.cells #[.int .i64 (a : Int), .int .i64 (b : Int)] 2)).of b3 (HQ2.out.alloc _).lt
           have k3 : ((w3).cell? ⟨w.heap.size, 0, none⟩ = some (.int .i64 K) ∧ (w3).cell? ⟨w.heap.size, 1, none⟩ = some (.int .i64 a) ∧ (w3).cell? ⟨w.heap.size, 2, none⟩ = some (.int .i64 b)) := ⟨A3.cell 0 rfl, A3.cell 1 rfl, A3.cell 2 rfl⟩
           have c3 := Q3.cell K HAT.out
           have B3 : Below w.heap.size w w3 := (BB2.alloc BB2.size _).trans (b3.mono (BB2.alloc BB2.size _).size)
           clear A3 Q3 b3)
        | (go_simp; go_at_call 17
           with_reducible show Calls _ _ #[] (World.drew (World.alloc w1 _)) _
           refine (deedWords_any m _ ((HM.out.step BA.out.drew).up BA.out.size)).mono ?_
           rintro e w2 ⟨q, rfl, hq, lo, b2⟩
           have A2 : Blk w2 w.heap.size _ _ := Blk.of (w := World.drew (World.alloc w1 (.cells #[.int .i64 (a : Int), .int .i64 (b : Int)] 2))) AA.out b2 AA.out.lt
           have R2 : Blk w2 w1.heap.size _ _ := Blk.of (w := World.drew (World.alloc w1 (.cells #[.int .i64 (a : Int), .int .i64 (b : Int)] 2))) RR.out b2 RR.out.lt
           have HR2 := Lib.hid R2
           have k2 : ((w2).cell? ⟨w.heap.size, 0, none⟩ = some (.int .i64 K) ∧ (w2).cell? ⟨w.heap.size, 1, none⟩ = some (.int .i64 a) ∧ (w2).cell? ⟨w.heap.size, 2, none⟩ = some (.int .i64 b)) := ⟨A2.cell 0 rfl, A2.cell 1 rfl, A2.cell 2 rfl⟩
           have c2 := hq.cell K HAT.out
           have BB2 : Below w.heap.size w w2 := BA.out.drew.trans (b2.mono BA.out.size)
           have la2 := A2.lt
           have lq2 := hq.lt
           have HA2 := Lib.hid A2
           have HQ2 := Lib.hid hq
           clear A2 R2 hq b2 lo)
        | (go_simp; go_at_call 17
           with_reducible show Calls _ _ #[] (World.drew w1) _
           refine (deedWords_any m _ ((HM.out.step B1.drew).up B1.size)).mono ?_
           rintro e w2 ⟨q, rfl, hq, lo, b2⟩
           have A2 : Blk w2 w.heap.size _ _ := Blk.of (w := World.drew w1) HA1.out b2 la
           have k2 : ((w2).cell? ⟨w.heap.size, 0, none⟩ = some (.int .i64 K) ∧ (w2).cell? ⟨w.heap.size, 1, none⟩ = some (.int .i64 a) ∧ (w2).cell? ⟨w.heap.size, 2, none⟩ = some (.int .i64 b)) := ⟨A2.cell 0 rfl, A2.cell 1 rfl, A2.cell 2 rfl⟩
           have k2a : (((World.alloc w2 (.cells #[.int .i64 (a : Int), .int .i64 (b : Int)] 2))).cell? ⟨w.heap.size, 0, none⟩ = some (.int .i64 K) ∧ ((World.alloc w2 (.cells #[.int .i64 (a : Int), .int .i64 (b : Int)] 2))).cell? ⟨w.heap.size, 1, none⟩ = some (.int .i64 a) ∧ ((World.alloc w2 (.cells #[.int .i64 (a : Int), .int .i64 (b : Int)] 2))).cell? ⟨w.heap.size, 2, none⟩ = some (.int .i64 b)) := by have X := A2.alloc (.cells #[.int .i64 (a : Int), .int .i64 (b : Int)] 2); exact ⟨X.cell 0 rfl, X.cell 1 rfl, X.cell 2 rfl⟩
           have c2 := hq.cell K HAT.out
           have c2a := (hq.alloc (.cells #[.int .i64 (a : Int), .int .i64 (b : Int)] 2)).cell K HAT.out
           have BB2 : Below w.heap.size w w2 := B1.drew.trans (b2.mono B1.size)
           have la2 := A2.lt
           have lq2 := hq.lt
           have HA2 := Lib.hid A2
           have HQ2 := Lib.hid hq
           clear A2 hq b2 lo))
    all_goals
      go_wp2
      go_ret
      exact ⟨by rw [R1.out]; rfl, B3⟩

end Go.Proofs.YteddgooalncfgaaDoor
