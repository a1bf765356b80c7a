/-
  The law FnExactGreatestOrder: whatever the sum, it returns true and leaves what was there as it was.
-/
import Derived.Test.YtaedgicglddihaaOrdImpl
import Derived.Test.YtaedgicglddihaaOrdSpec
import Derived.Test.YtaedgicglddihaaMInt64S
namespace Go.Proofs.Ytaedgicglddihaa
open Go.RowKit

theorem ord_same (a : Int) : ordAnsI a = ordAns a := by
  unfold ordAnsI ordAns
  split
  · rename_i h
    rw [ord_alike a.toNat (by omega)]
  · rfl

theorem ord_len (a : Int) : (ordAns a).2.1.length ≤ 60 := by
  unfold ordAns
  split
  · rename_i h
    show (oList (ordSpec a.toNat).2).length ≤ 60
    rw [oList_len, (ord_lit a.toNat (by omega)).2]
    have key : (List.range 61).all (fun s => decide ((ordLit s).2.length ≤ 60)) = true := by kernel_rfl
    have := List.all_eq_true.1 key a.toNat (List.mem_range.2 (by omega))
    simpa using this
  · exact Nat.zero_le _

/-- The first part with its blocks: whatever lies there later, all other parts are as they were. -/
theorem Star.hold {w0 w : World} {ps : List Ob} {P : Ob} (S : Star w0 w (P :: ps)) : ∃ f, P.holds w f ∧ ∀ (w' : World) (P' : Ob), P'.holds w' f → But f w w' → Star w0 w' (P' :: ps) := by
  obtain ⟨B, fp, hh, d⟩ := S
  obtain ⟨p1, p2⟩ := hh 0 P rfl
  refine ⟨fp 0, p1, fun w' P' h bt => ?_⟩
  have S' : Star w0 w ((⟨fun w g => g = fp 0 ∧ P.holds w g, fun hf h => ⟨h.1, P.frame hf h.2⟩⟩ : Ob) :: ps) := by
    refine ⟨B, fp, fun i Q hQ => ?_, fun i j hij hi hj => d i j hij (by simpa using hi) (by simpa using hj)⟩
    cases i with
    | zero =>
      simp only [List.getElem?_cons_zero, Option.some.injEq] at hQ
      subst hQ
      exact ⟨⟨rfl, p1⟩, p2⟩
    | succ i => exact hh (i + 1) Q (by simpa using hQ)
  refine S'.upd (P' := P') fun g hg nd hl => ?_
  obtain ⟨rfl, -⟩ := hg
  exact ⟨fp 0, h, nd, fun b hb => .inl hb, fun b hb => Nat.lt_of_lt_of_le (hl b hb) bt.size, bt⟩

set_option maxHeartbeats 4000000 in
set_option maxRecDepth 100000 in
theorem lawGreatestOrder_any (a0 : Int) (w : World) (h0 : -9223372036854775808 ≤ a0 ∧ a0 ≤ 9223372036854775807) :
    Calls Try.prog 3 #[.int .i64 a0] w (Gives (.bool true) w) := by
  obtain ⟨x, hx⟩ : ∃ x, x = ordAns a0 := ⟨_, rfl⟩
  have HS : Hid (ordAns a0 = x) := Lib.hid hx.symm
  have HI : Hid (ordAnsI a0 = x) := Lib.hid ((ord_same a0).trans hx.symm)
  have hlen : x.2.1.length ≤ 60 := by rw [hx]; exact ord_len a0
  clear hx
  obtain ⟨x0, l, x2⟩ := x
  simp only at hlen
  have hne1 : (x0 != x0) = false := by simp
  have hne2 : (x2 != x2) = false := by simp
  go_enter Try.func3, Try.ntmps3
  go_wp2_with fail
  refine (specOrd_is a0 _ w h0 HS.out).mono ?_
  rintro e w1 ⟨v1, f1, rfl, o1, nd1, lo1, b1⟩
  have S := (Star.nil w).made o1 nd1 lo1 b1
  clear o1 nd1 lo1 b1
  go_wp2_with fail
  refine (implOrd_is a0 _ w1 h0 HI.out).mono ?_
  rintro e w2 ⟨v2, f2, rfl, o2, nd2, lo2, b2⟩
  replace S := S.made o2 nd2 lo2 b2
  clear o2 nd2 lo2 b2
  obtain ⟨sa, sn, sc, rfl⟩ := S.slc 0 rfl
  obtain ⟨ta, tn, tc, rfl⟩ := S.slc 1 rfl
  go_wp2_with fail
  refine (eqInt64S_is true _ _ l l _ _ w2 (decide_eq_true rfl) (S.rd 0 rfl) (S.rd 1 rfl)).mono ?_
  rintro e w3 ⟨rfl, b⟩
  replace S := S.step b
  clear b
  go_wp2_with fail
  obtain ⟨f3, hf3, hS⟩ := S.hold
  refine (markInt64S_any _ l f3 1 w3 hf3 (by omega) (by omega)).mono ?_
  rintro e w4 ⟨l', rfl, o4, hh4, hc4, bt4⟩
  have hl4 : l'.length = l.length := hc4
  have hcl : (intsM.cnt l : Int) = (l.length : Int) := rfl
  replace S := hS w4 (oE intsE [.slice sa sn sc] l') o4 bt4
  clear hS hf3 o4 bt4 hc4
  rw [hcl]
  obtain ⟨n, hn⟩ : ∃ n, n = l.length := ⟨_, rfl⟩
  rw [← hn] at hlen hl4 ⊢
  have HHE := Lib.hid hh4
  clear hh4 hcl hn
  go_wp2_with fail
  refine (heldInt64S_any _ l' _ 1 w4 (S.rd 0 rfl) HHE.out (by omega) (by omega)).mono ?_
  rintro e w5 ⟨rfl, b⟩
  replace S := S.step b
  clear b
  rw [show (intsM.cnt l' : Int) = (l'.length : Int) from rfl, hl4]
  have hpos : ¬ (1 : Int) + (n : Int) < 0 := by omega
  have hnn : ((1 : Int) + (n : Int) != 1 + (n : Int)) = false := by simp
  go_wp2_with fail
  refine (implOrd_is a0 _ w5 h0 HI.out).mono ?_
  rintro e w6 ⟨v6, f6, rfl, o6, nd6, lo6, b6⟩
  replace S := S.made o6 nd6 lo6 b6
  clear o6 nd6 lo6 b6
  obtain ⟨ra, rn, rc, rfl⟩ := S.slc 0 rfl
  go_wp2_with fail
  refine (eqInt64S_is true _ _ l l _ _ w6 (decide_eq_true rfl) (S.rd 0 rfl) (S.rd 2 rfl)).mono ?_
  rintro e w7 ⟨rfl, b⟩
  replace S := S.step b
  clear b
  go_wp2_with fail
  refine (heldInt64S_any _ l' _ 1 w7 (S.rd 1 rfl) HHE.out (by omega) (by omega)).mono ?_
  rintro e w8 ⟨rfl, b⟩
  replace S := S.step b
  clear b
  rw [show (intsM.cnt l' : Int) = (l'.length : Int) from rfl, hl4]
  go_wp2
  go_ret
  exact ⟨rfl, S.below⟩

end Go.Proofs.Ytaedgicglddihaa
