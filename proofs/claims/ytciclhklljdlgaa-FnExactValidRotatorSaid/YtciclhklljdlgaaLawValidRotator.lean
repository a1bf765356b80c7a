/-
  The law FnExactValidRotator: whatever the input, it returns true and leaves what was there as it was.
-/
import Derived.Test.YtciclhklljdlgaaSpecRot
import Derived.Test.YtciclhklljdlgaaSz
import Derived.Test.YtciclhklljdlgaaERotator
namespace Go.Proofs.Ytciclhklljdlgaa
open Go.RowKit

theorem ow_agg {α : Type} (E : Enc α) {w : World} {cs : List Value} {a : α} {fp : List Nat} (h : E.ow w cs a fp) : E.rd w w.heap.size cs a := E.rd_ow h

set_option maxHeartbeats 400000 in
theorem lawValidRotator_any (cs : List Value) (r : Rot) (w : World) (h : rotsE.rd w w.heap.size cs r) :
    Calls Try.prog 5 #[.agg cs.toArray] w (Gives (.bool true) w) := by
  have H := Lib.hid h
  obtain ⟨p3, p4, rfl, -, -, ph3, ph4⟩ := rd_Rot h
  obtain ⟨pa3, pn3, pc3, rfl⟩ := rd_slice ph3
  obtain ⟨pa4, pn4, pc4, rfl⟩ := rd_slice ph4
  clear ph3 ph4
  clear h
  obtain ⟨tot, htot⟩ : ∃ tot, tot = r.next.length + sumLen r.next + r.fin.length := ⟨_, rfl⟩
  have Ht := Lib.hid htot; clear htot
  have hl := Lib.hid (fun h : ¬ 1048576 < tot => (show r.next.length ≤ 1048576 ∧ (∀ x, x ∈ r.next → x.length ≤ 1048576) ∧ r.fin.length ≤ 1048576 from by
    have := Ht.out
    exact ⟨by omega, fun x hx => by have := sumLen_mem _ _ hx; omega, by omega⟩))
  go_enter Try.func5, Try.ntmps5
  go_wp2_with fail
  generalize hW : w.alloc _ = w0
  obtain ⟨A0, B0⟩ := blk1 hW
  clear hW
  refine (szRotator_any _ r w.heap.size _ _ B0.size (rotsE.rd_of B0 H.out) (by omega) (by omega)).mono ?_
  rintro e w1 ⟨rfl, b1⟩
  have B1 := B0.trans (b1.mono B0.size)
  have A1 := A0.of b1 A0.lt
  clear b1 B0 A0
  by_cases hbig : 1048576 < tot
  case pos =>
    rw [lim_of_lt (by rw [← Ht.out]; omega)]
    go_wp2
    go_ret
    exact ⟨rfl, B1⟩
  rw [lim_of_ge (by rw [← Ht.out]; omega), ← Ht.out]
  have hnn : ¬ (1048576 - (tot : Int) < 0) := by omega
  have hl1 := Lib.hid (hl.out hbig).1
  have hl2 := Lib.hid (hl.out hbig).2.1
  have hl3 := Lib.hid (hl.out hbig).2.2
  clear hl
  have d0 := A1.cell 0 rfl; have d1 := A1.cell 1 rfl; have d2 := A1.cell 2 rfl; have d3 := A1.cell 3 rfl
  go_wp2_with fail
  clear d0 d1 d2 d3
  -- the reference
  refine (toRotator_any _ r w.heap.size _ B1.size (rotsE.rd_of B1 H.out) hl1.out hl2.out hl3.out).mono ?_
  rintro e w2 ⟨x2, f2, rfl, o2, -, -, b2⟩
  have B2 := B1.trans (b2.mono B1.size)
  have A2 := A1.of b2 A1.lt
  have O2 := Lib.hid (rotsE.rd_ow o2)
  have o2' := rotsE.rd_ow o2
  obtain ⟨q3, q4, rfl, -, -, qh3, qh4⟩ := rd_Rot o2'
  obtain ⟨qa3, qn3, qc3, rfl⟩ := rd_slice qh3
  obtain ⟨qa4, qn4, qc4, rfl⟩ := rd_slice qh4
  clear qh3 qh4
  clear o2 o2' b2 B1 A1
  go_wp2_with fail
  refine (specValidRotator_any _ r _ _ (Nat.le_refl _) O2.out).mono ?_
  rintro e w3 ⟨rfl, b3⟩
  have B3 := B2.trans (b3.mono B2.size)
  have A3 := A2.of b3 A2.lt
  clear b3 B2 O2 A2
  have d0 := A3.cell 0 rfl; have d1 := A3.cell 1 rfl; have d2 := A3.cell 2 rfl; have d3 := A3.cell 3 rfl
  go_wp2_with fail
  clear d0 d1 d2 d3
  -- the program
  refine (toRotator_any _ r w.heap.size _ B3.size (rotsE.rd_of B3 H.out) hl1.out hl2.out hl3.out).mono ?_
  rintro e w4 ⟨x4, f4, rfl, o4, -, -, b4⟩
  have B4 := B3.trans (b4.mono B3.size)
  have A4 := A3.of b4 A3.lt
  have O4 := Lib.hid (rotsE.rd_ow o4)
  have o4' := rotsE.rd_ow o4
  obtain ⟨s3, s4, rfl, -, -, sh3, sh4⟩ := rd_Rot o4'
  obtain ⟨sa3, sn3, sc3, rfl⟩ := rd_slice sh3
  obtain ⟨sa4, sn4, sc4, rfl⟩ := rd_slice sh4
  clear sh3 sh4
  clear o4 o4' b4 B3 A3
  go_wp2_with fail
  generalize hW : w4.alloc _ = w5
  obtain ⟨X5, b5⟩ := blk1 hW
  clear hW
  have B5 := B4.trans (b5.mono B4.size)
  have A5 := A4.of b5 A4.lt
  have O5 := Lib.hid (rotsE.rd_of b5 O4.out)
  have S5 := b5.size
  clear b5 B4 A4 O4
  refine (validRotator_any _ r _ _ S5 O5.out).mono ?_
  rintro e w6 ⟨rfl, b6⟩
  have B6 := B5.trans (b6.mono B5.size)
  have A6 := A5.of b6 A5.lt
  have X6 := X5.of b6 X5.lt
  have O6 := Lib.hid (rotsE.rd_of (b6.mono S5) O5.out)
  have S6 := Nat.le_trans S5 b6.size
  clear b6 B5 A5 X5 O5 S5
  have d0 := A6.cell 0 rfl; have d1 := A6.cell 1 rfl; have d2 := A6.cell 2 rfl; have d3 := A6.cell 3 rfl
  have e0 := X6.cell 0 rfl; have e1 := X6.cell 1 rfl; have e2 := X6.cell 2 rfl; have e3 := X6.cell 3 rfl
  go_wp2_with fail
  have HA6 := Lib.hid A6; clear A6
  have HX6 := Lib.hid X6; clear X6
  have HB6 := Lib.hid B6; clear B6
  have hb6 := HB6.out.size
  have lx := HX6.out.lt
  have la := HA6.out.lt
  go_region_held3 (fun w' => (w'.cell? ⟨w.heap.size, 0, none⟩ = some (.int .i64 r.letters) ∧ w'.cell? ⟨w.heap.size, 1, none⟩ = some (.int .i64 r.start) ∧ w'.cell? ⟨w.heap.size, 2, none⟩ = some (.slice pa3 pn3 pc3) ∧ w'.cell? ⟨w.heap.size, 3, none⟩ = some (.slice pa4 pn4 pc4)) ∧
      w'.cell? ⟨w4.heap.size, 0, none⟩ = some (.int .i64 r.letters) ∧ w'.cell? ⟨w4.heap.size, 1, none⟩ = some (.int .i64 r.start) ∧ w'.cell? ⟨w4.heap.size, 2, none⟩ = some (.slice sa3 sn3 sc3) ∧ w'.cell? ⟨w4.heap.size, 3, none⟩ = some (.slice sa4 sn4 sc4))
    (first
      | go_keep
      | (have A7 := HA6.out.of b7 la
         have X7 := HX6.out.of b7 lx
         exact ⟨⟨A7.cell 0 rfl, A7.cell 1 rfl, A7.cell 2 rfl, A7.cell 3 rfl⟩, X7.cell 0 rfl, X7.cell 1 rfl, X7.cell 2 rfl, X7.cell 3 rfl⟩)
      | (have A7 := HA6.out.of (b7.trans (b8.mono b7.size)) la
         have X7 := HX6.out.of (b7.trans (b8.mono b7.size)) lx
         exact ⟨⟨A7.cell 0 rfl, A7.cell 1 rfl, A7.cell 2 rfl, A7.cell 3 rfl⟩, X7.cell 0 rfl, X7.cell 1 rfl, X7.cell 2 rfl, X7.cell 3 rfl⟩))
    (first
      | (go_at_call 15
         refine (toRotator_any _ r w.heap.size _ (by exact hb6) (by exact rotsE.rd_of HB6.out.drew H.out) hl1.out hl2.out hl3.out).mono ?_
         rintro e w7 ⟨x7, f7, rfl, o7, -, -, b7⟩
         have b7 : Below w6.heap.size w6 w7 := (Below.refl _ w6).drew.trans b7
         have O7 := Lib.hid (rotsE.rd_ow o7)
         have o7' := rotsE.rd_ow o7
         obtain ⟨ts3, ts4, rfl, -, -, th3, th4⟩ := rd_Rot o7'
         obtain ⟨ta3, tn3, tc3, rfl⟩ := rd_slice th3
         obtain ⟨ta4, tn4, tc4, rfl⟩ := rd_slice th4
         clear th3 th4 o7 o7')
      | (go_at_call 17
         refine (eqRotator_is true _ _ r r _ _ _ (Nat.le_trans S6 b7.size) (Nat.le_refl _) (rotsE.rd_of (b7.mono S6) O6.out) O7.out (decide_eq_true rfl)).mono ?_
         rintro e w8 ⟨rfl, b8⟩))
  have B8 := HB6.out.trans ((b7.trans (b8.mono b7.size)).mono hb6)
  go_wp2
  go_ret
  exact ⟨rfl, B8⟩

end Go.Proofs.Ytciclhklljdlgaa
