/-
  FnOrders: the law's own helpers.
-/
import Derived.Test.YtaedgicglddihaaPick
import Derived.Test.YtaedgicglddihaaLInt64S
import Derived.Test.YtaedgicglddihaaOver
namespace Go.Proofs.Ytaedgicglddihaa
open Go.RowKit

theorem gcd_step (x y : Nat) : Nat.gcd y (x % y) = Nat.gcd x y := by
  rw [Nat.gcd_comm x y, Nat.gcd_rec y x, Nat.gcd_comm]

set_option maxHeartbeats 400000 in
theorem f6gcd_any (x y : Nat) (w : World) (hx : x ≤ 9223372036854775807) (hy : y ≤ 9223372036854775807) :
    Calls Try.prog 13 #[.int .i64 (x : Int), .int .i64 (y : Int)] w (Keeps (.int .i64 (Nat.gcd x y)) w) := by
  go_enter Try.func13, Try.ntmps13
  go_wp2
  go_loop [0, 1, 5] (fun a b _ => ∃ p q : Nat, a = .int .i64 p ∧ b = .int .i64 q ∧ p ≤ 9223372036854775807 ∧ q ≤ 9223372036854775807 ∧ Hid (Nat.gcd p q = Nat.gcd x y)) (fun _ b _ => (intOf b).toNat)
  case atStart => exact ⟨x, y, rfl, rfl, hx, hy, Lib.hid rfl⟩
  case round =>
    obtain ⟨p, q, rfl, rfl, hp, hq, HG⟩ := hrel
    by_cases h0 : q = 0
    · subst h0
      go_wp2
      go_ret
      exact ⟨by rw [← HG.out, Nat.gcd_zero_right]; rfl, rfl⟩
    · have t0 : ((q : Int) != 0) = true := by simpa using h0
      have q1 : (1 : Int) ≤ (q : Int) := by omega
      have hm : p % q < q := Nat.mod_lt _ (by omega)
      have hs := Lib.hid (gcd_step p q)
      go_wp2
      go_round
      case rel => exact ⟨q, p % q, by go_num, by go_num, hq, by omega, Lib.hid (hs.out.trans HG.out)⟩
      case measure => simp [intOf]; omega

set_option maxHeartbeats 400000 in
theorem f6ints_any (va vb : Value) (la lb : List Int) (B B' : Nat) (w : World) (ha : intsE.rd w B [va] la) (hb : intsE.rd w B' [vb] lb) :
    Calls Try.prog 12 #[va, vb] w (Gives (.bool (decide (la = lb))) w) := by
  obtain ⟨a, ca, rfl, a1, a2, _, a4⟩ := rd_ints ha
  obtain ⟨b, cb, rfl, b1, b2, _, b4⟩ := rd_ints hb
  clear ha hb
  have H4 := Lib.hid a4; clear a4
  have K4 := Lib.hid b4; clear b4
  by_cases hlen : la.length = lb.length
  · obtain ⟨n, hn⟩ : ∃ n, n = la.length := ⟨_, rfl⟩
    rw [← hn] at hlen H4 a1 ⊢
    rw [← hlen] at K4 b1 ⊢
    have Hn := Lib.hid hn; clear hn
    have Hl := Lib.hid hlen; clear hlen
    go_enter Try.func12, Try.ntmps12
    go_wp2
    go_loopw [5] (fun i wr => ∃ k : Nat, k ≤ n ∧ i = .int .i64 k ∧ Below w.heap.size w wr ∧ Hid (∀ i, i < k → la[i]?.getD 0 = lb[i]?.getD 0)) (fun i _ => n - (intOf i).toNat)
    case atStart => exact ⟨0, by omega, rfl, Below.refl _ _, Lib.hid (fun i hi => absurd hi (by omega))⟩
    case round =>
      obtain ⟨k, hk, rfl, hB, HE⟩ := hrel
      by_cases hlt : k < n
      · obtain ⟨p, o, rfl, _, hc, -, -⟩ := H4.out k hlt
        obtain ⟨p', o', rfl, _, hc', -, -⟩ := K4.out k hlt
        have c1 := (hB.cell (World.block_lt_of_cell? w _ hc)).trans hc
        have c2 := (hB.cell (World.block_lt_of_cell? w _ hc')).trans hc'
        clear hc hc'
        generalize hx : la[k]?.getD 0 = x at *
        generalize hy : lb[k]?.getD 0 = y at *
        have HX := Lib.hid hx; have HY := Lib.hid hy; clear hx hy
        by_cases he : x = y
        · have heb : (x != y) = false := by simp [he]
          have He := Lib.hid he; clear he
          go_wp2
          go_quiet (fail)
          go_wp2
          go_roundw
          case rel => exact ⟨k + 1, by omega, by go_num, below_drewN hB _, Lib.hid (fun i hi => by by_cases h : i = k; (subst h; rw [HX.out, HY.out]; exact He.out); exact HE.out i (by omega))⟩
          case measure => simp [intOf]; omega
        · have heb : (x != y) = true := by simpa using he
          have He := Lib.hid he; clear he
          go_wp2
          go_quiet (fail)
          go_wp2
          go_ret
          have : la ≠ lb := fun e => He.out (by rw [← HX.out, ← HY.out, e])
          exact ⟨by simp [this], below_drewN hB _⟩
      · obtain rfl : k = n := by omega
        go_wp2
        go_ret
        have : la = lb := ext_getD 0 (by rw [← Hn.out, Hl.out]) (fun i hi => HE.out i (by rw [Hn.out]; exact hi))
        exact ⟨by simp [this], hB⟩
  · have hb := bne_len hlen
    have : la ≠ lb := fun e => hlen (by rw [e])
    have Ht := Lib.hid this; clear this
    go_enter Try.func12, Try.ntmps12
    go_wp2
    go_ret
    exact ⟨by simp [Ht.out], Below.refl _ _⟩

theorem f6ints_is (r : Bool) (va vb : Value) (la lb : List Int) (B B' : Nat) (w : World) (hr : decide (la = lb) = r) (ha : intsE.rd w B [va] la) (hb : intsE.rd w B' [vb] lb) :
    Calls Try.prog 12 #[va, vb] w (Gives (.bool r) w) := hr ▸ f6ints_any va vb la lb B B' w ha hb

theorem f6big_is (r : Bool) (v : Value) (l : List Int) (B : Nat) (w : World) (hr : decide (4096 < l.length) = r) (h : bytesE.rd w B [v] l) :
    Calls Try.prog 10 #[v] w (Keeps (.bool r) w) := by
  subst hr
  obtain ⟨a, cap, rfl, h1, h2, -, -⟩ := rd_bytes h
  clear h
  go_enter Try.func10, Try.ntmps10
  by_cases hl : 4096 < l.length
  · have t1 : (4096 : Int) < (l.length : Int) := by omega
    go_wp2
    go_ret
    exact ⟨by simp [hl], rfl⟩
  · have t1 : ¬ (4096 : Int) < (l.length : Int) := by omega
    go_wp2
    go_ret
    exact ⟨by simp [hl], rfl⟩

end Go.Proofs.Ytaedgicglddihaa
