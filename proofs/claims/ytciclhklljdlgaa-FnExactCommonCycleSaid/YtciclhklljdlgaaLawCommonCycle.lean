/-
  The law FnExactCommonCycle.
-/
import Derived.Test.YtciclhklljdlgaaCycle
namespace Go.Proofs.Ytciclhklljdlgaa
open Go.RowKit

set_option maxHeartbeats 1000000 in
theorem lawCommonCycle_any (v : Value) (l : List Int) (w : World) (h : intsE.rd w w.heap.size [v] l) :
    Calls Try.prog 4 #[v] w (Gives (.bool true) w) := by
  have hlen := len_le h
  have H := Lib.hid h
  obtain ⟨a, cap, rfl, -, -, -, -⟩ := rd_ints h
  clear h
  by_cases hbig : 1048576 < l.length
  · go_enter Try.func4, Try.ntmps4
    go_wp2
    go_ret
    exact ⟨rfl, Below.refl _ _⟩
  · have hl : l.length ≤ 1048576 := by omega
    go_enter Try.func4, Try.ntmps4
    go_wp2_with fail
    refine (toInt64S_any _ l w.heap.size _ H.out hl).mono ?_
    rintro e w1 ⟨x1, f1, rfl, o1, -, -, b1⟩
    have O1 := Lib.hid (intsE.rd_ow o1)
    obtain ⟨s1, n1, c1, rfl⟩ := ow_slice o1
    clear o1
    go_wp2_with fail
    refine (specCommonCycle_any _ l _ _ O1.out).mono ?_
    rintro e w2 ⟨rfl, b2⟩
    have B2 := b1.trans (b2.mono b1.size)
    clear b1 b2 O1
    generalize hN : ccNum l = N
    generalize hC : ccCode l = C
    have HN := Lib.hid hN; have HC := Lib.hid hC; clear hN hC
    go_wp2_with fail
    refine (toInt64S_any _ l w.heap.size _ (intsE.rd_of B2 H.out) hl).mono ?_
    rintro e w3 ⟨x3, f3, rfl, o3, -, -, b3⟩
    have B3 := B2.trans (b3.mono B2.size)
    have O3 := Lib.hid (intsE.rd_ow o3)
    obtain ⟨s3, n3, c3, rfl⟩ := ow_slice o3
    clear o3 b3 B2
    go_wp2_with fail
    refine (commonCycle_any _ l _ _ (Nat.le_refl _) O3.out).mono ?_
    rintro e w4 ⟨rfl, b4⟩
    rw [HN.out, HC.out]
    have B4 := B3.trans (b4.mono B3.size)
    have S4 := b4.size
    have O4 := Lib.hid (intsE.rd_of b4 O3.out)
    clear b4 B3 O3
    go_wp2_with fail
    refine (toInt64S_any _ l w.heap.size _ (intsE.rd_of B4 H.out) hl).mono ?_
    rintro e w5 ⟨x5, f5, rfl, o5, -, -, b5⟩
    have B5 := B4.trans (b5.mono B4.size)
    have O5 := Lib.hid (intsE.rd_ow o5)
    have O4 := Lib.hid (intsE.rd_of (b5.mono S4) O4.out)
    obtain ⟨s5, n5, c5, rfl⟩ := ow_slice o5
    clear o5 b5 B4
    go_wp2_with fail
    refine (eqInt64S_is true _ _ l l _ _ _ (decide_eq_true rfl) O4.out O5.out).mono ?_
    rintro e w6 ⟨rfl, b6⟩
    have B6 := B5.trans (b6.mono B5.size)
    clear b6 B5
    go_wp2
    go_ret
    exact ⟨rfl, B6⟩

end Go.Proofs.Ytciclhklljdlgaa
