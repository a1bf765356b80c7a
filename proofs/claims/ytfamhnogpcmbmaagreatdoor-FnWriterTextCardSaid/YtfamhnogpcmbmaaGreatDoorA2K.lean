/-
  What the laws ask of bytes: their number, and the one at a place.
-/
import Derived.Test.YtfamhnogpcmbmaaGreatDoorPackA
namespace Go.Proofs.YtfamhnogpcmbmaaGreatDoor
open Go.RowKit

theorem a2Long_is (r : Bool) (va vb : Value) (la lb : List Int) (B C : Nat) (w : World) (hr : decide (3000 < la.length ∨ 3000 < lb.length) = r) (h : bytesE.rd w B [va] la) (h' : bytesE.rd w C [vb] lb) :
    Calls Tryz.prog 5 #[va, vb] w (Keeps (.bool r) w) := by
  obtain ⟨a, ca, rfl, -, -, -, -⟩ := rd_bytes h
  obtain ⟨b, cb, rfl, -, -, -, -⟩ := rd_bytes h'
  obtain ⟨n, hn⟩ : ∃ n, n = la.length := ⟨_, rfl⟩
  obtain ⟨m, hm⟩ : ∃ m, m = lb.length := ⟨_, rfl⟩
  rw [← hn, ← hm] at hr
  rw [← hn, ← hm]
  have HR := Lib.hid hr
  clear hr h h' hn hm
  go_enter Tryz.func5, Tryz.ntmps5
  by_cases h1 : 3000 < n
  · have c1 : (3000 : Int) < (n : Int) := by omega
    have hr : r = true := by rw [← HR.out]; exact decide_eq_true (.inl h1)
    subst hr
    clear h1 HR
    go_wp2
    go_ret
    exact ⟨rfl, rfl⟩
  · have c1 : ¬ (3000 : Int) < (n : Int) := by omega
    by_cases h2 : 3000 < m
    · have c2 : (3000 : Int) < (m : Int) := by omega
      have hr : r = true := by rw [← HR.out]; exact decide_eq_true (.inr h2)
      subst hr
      clear h1 h2 HR
      go_wp2
      go_ret
      exact ⟨rfl, rfl⟩
    · have c2 : ¬ (3000 : Int) < (m : Int) := by omega
      have hr : r = false := by rw [← HR.out]; exact decide_eq_false (fun h => h.elim h1 h2)
      subst hr
      clear h1 h2 HR
      go_wp2
      go_ret
      exact ⟨rfl, rfl⟩

theorem a2At_is (i n : Nat) (v : Value) (l : List Int) (B : Nat) (w : World) (hi : i ≤ 1000) (hn1 : 1 ≤ n) (hn : n ≤ 1000) (h : bytesE.rd w B [v] l) :
    Calls Tryz.prog 7 #[v, .int .i64 (i : Nat), .int .i64 (n : Nat)] w (fun e w' => ∃ x : Nat, e = .returned (.int .i64 (x : Nat)) ∧ x < n ∧ w' = w) := by
  obtain ⟨a, ca, rfl, h1, h2, -, h4⟩ := rd_bytes h
  obtain ⟨m, hm⟩ : ∃ m, m = l.length := ⟨_, rfl⟩
  rw [← hm] at h1 h4 ⊢
  have H4 := Lib.hid h4
  clear h4 hm h
  go_enter Tryz.func7, Tryz.ntmps7
  by_cases hlt : i < m
  · obtain ⟨p, q, rfl, -, hc, lo, hi2⟩ := H4.out i hlt
    generalize l[i]?.getD 0 = x at *
    obtain ⟨x, rfl⟩ : ∃ k : Nat, x = k := ⟨x.toNat, by omega⟩
    have hn0 : ¬ n = 0 := by omega
    have c1 : ¬ (m : Int) ≤ (i : Int) := by omega
    have c2 : ¬ (n : Int) < 1 := by omega
    obtain ⟨z, hz⟩ : ∃ z, z = x % n := ⟨_, rfl⟩
    have hrem : (x : Int).tmod (n : Int) = (z : Int) := by rw [hz]; rfl
    have hzm : z < n := by rw [hz]; exact Nat.mod_lt _ (by omega)
    have i1 : (0 : Int) ≤ (i : Int) := by omega
    have i2 : (i : Int) < (m : Int) := by omega
    have wx : IntKind.i64.wrap (x : Int) = (x : Int) := IntWalk.i64_in _ ⟨by omega, by omega⟩
    clear hz
    go_wp2
    go_ret
    exact ⟨z, rfl, hzm, rfl⟩
  · have c1 : (m : Int) ≤ (i : Int) := by omega
    go_wp2
    go_ret
    exact ⟨0, rfl, by omega, rfl⟩

end Go.Proofs.YtfamhnogpcmbmaaGreatDoor
