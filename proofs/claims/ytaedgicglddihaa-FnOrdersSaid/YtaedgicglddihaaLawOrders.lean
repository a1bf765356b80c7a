/-
  The law FnOrders: whatever the bytes, it returns true and leaves what was there as it was.
-/
import Derived.Test.YtaedgicglddihaaOrdersA
import Derived.Test.YtaedgicglddihaaOrdersF
import Derived.Test.YtaedgicglddihaaLawGreatestOrder
namespace Go.Proofs.Ytaedgicglddihaa
open Go.RowKit

theorem ordAns_lit (s : Nat) (hs : s ≤ 60) : ordAns s = (((ordLit s).1 : Int), oList (ordLit s).2, 0) := by
  unfold ordAns
  rw [if_pos ⟨by omega, by omega⟩, Int.toNat_natCast, (ord_lit s (by omega)).2]

theorem Star.ints {w0 w : World} {ps : List Ob} {a : Option Addr} {m c : Nat} {l : List Int} (S : Star w0 w ps) (n : Nat) (h : ps[n]? = some (oE intsE [.slice a m c] l)) :
    ∀ k, k < m → ∃ b o, a = some ⟨b, o, none⟩ ∧ b < w.heap.size ∧ w.cell? ⟨b, o + k, none⟩ = some (.int .i64 (l[k]?.getD 0)) := by
  obtain ⟨a', c', he, -, -, -, h4⟩ := rd_ints (S.rd n h)
  simp only [Value.slice.injEq] at he
  obtain ⟨rfl, rfl, rfl⟩ := he
  intro k hk
  obtain ⟨b, o, e1, e2, e3, -, -⟩ := h4 k hk
  exact ⟨b, o, e1, e2, e3⟩

theorem f6gcd_is (r : Int) (x y : Nat) (w : World) (hr : (Nat.gcd x y : Int) = r) (hx : x ≤ 9223372036854775807) (hy : y ≤ 9223372036854775807) :
    Calls Try.prog 13 #[.int .i64 (x : Int), .int .i64 (y : Int)] w (Keeps (.int .i64 r) w) := hr ▸ f6gcd_any x y w hx hy

theorem oList_at (L : List Nat) (k : Nat) : (oList L)[k]?.getD 0 = ((L[k]?.getD 0 : Nat) : Int) := by
  unfold oList
  rw [List.getElem?_map]
  cases L[k]? <;> rfl

set_option maxHeartbeats 8000000 in
set_option maxRecDepth 100000 in
theorem lawFnOrders_any (v0 : Value) (code : List Int) (v1 : Value) (more : List Int) (w : World) (h0 : bytesE.rd w w.heap.size [v0] code) (h1 : bytesE.rd w w.heap.size [v1] more) :
    Calls Try.prog 4 #[v0, v1] w (Gives (.bool true) w) := by
  obtain ⟨ca, cc, rfl, -, -, -, -⟩ := rd_bytes h0
  obtain ⟨ma, mc, rfl, -, -, -, -⟩ := rd_bytes h1
  go_enter Try.func4, Try.ntmps4
  by_cases hb0 : 4096 < code.length
  · go_wp2_with fail
    refine (f6big_is true _ code _ w (decide_eq_true hb0) h0).mono ?_
    rintro e w1 ⟨rfl, rfl⟩
    go_wp2
    go_ret
    exact ⟨rfl, Below.refl _ _⟩
  go_wp2_with fail
  refine (f6big_is false _ code _ w (decide_eq_false hb0) h0).mono ?_
  rintro e w1 ⟨rfl, rfl⟩
  by_cases hb1 : 4096 < more.length
  · go_wp2_with fail
    refine (f6big_is true _ more _ w (decide_eq_true hb1) h1).mono ?_
    rintro e w1 ⟨rfl, rfl⟩
    go_wp2
    go_ret
    exact ⟨rfl, Below.refl _ _⟩
  go_wp2_with fail
  refine (f6big_is false _ more _ w (decide_eq_false hb1) h1).mono ?_
  rintro e w1 ⟨rfl, rfl⟩
  go_wp2_with fail
  refine (P6Pick_any _ code 60 w (by omega) h0).mono ?_
  rintro e w1 ⟨s, rfl, hs, b1⟩
  have S := (Star.nil w).step b1
  clear b1
  have hs60 : s < 60 := by omega
  have HF0 := ord_facts s hs60
  have HA := ordAns_lit s (by omega)
  have HA2 := ordAns_lit (s + 1) (by omega)
  have HM := Lib.hid (fun ns h1 h2 => lcms_ord ns s (by omega) h1 h2)
  generalize (ordLit s).1 = due at *
  generalize (ordLit s).2 = L at *
  generalize (ordLit (s + 1)).1 = due2 at *
  generalize (ordLit (s + 1)).2 = L2 at *
  obtain ⟨l, hl⟩ : ∃ l, l = oList L := ⟨_, rfl⟩
  obtain ⟨l2, hl2⟩ : ∃ l, l = oList L2 := ⟨_, rfl⟩
  rw [← hl] at HA
  rw [← hl2] at HA2
  have HS := Lib.hid HA
  have HI := Lib.hid ((ord_same s).trans HA)
  have HI2 : Hid (ordAnsI ((s : Int) + 1) = ((due2 : Int), l2, 0)) := Lib.hid ((ord_same ((s : Int) + 1)).trans HA2)
  have HF := Lib.hid HF0
  have HL := Lib.hid hl
  have hdue := HF0.more
  have t1 : ¬ (due2 : Int) < (due : Int) := by omega
  have hne1 : ((due : Int) != (due : Int)) = false := by simp
  clear HA HA2 HF0 hl hl2 hdue
  have hsi : -9223372036854775808 ≤ (s : Int) ∧ (s : Int) ≤ 9223372036854775807 := by omega
  have hsi1 : -9223372036854775808 ≤ (s : Int) + 1 ∧ (s : Int) + 1 ≤ 9223372036854775807 := by omega
  go_wp2_with fail
  refine (implOrd_is s _ w1 hsi HI.out).mono ?_
  rintro e w2 ⟨v2, f2, rfl, o2, nd2, lo2, b2⟩
  replace S := S.made o2 nd2 lo2 b2
  clear o2 nd2 lo2 b2
  go_wp2_with fail
  refine (specOrd_is s _ w2 hsi HS.out).mono ?_
  rintro e w3 ⟨v3, f3, rfl, o3, nd3, lo3, b3⟩
  replace S := S.made o3 nd3 lo3 b3
  clear o3 nd3 lo3 b3
  go_wp2_with fail
  refine (implOrd_is ((s : Int) + 1) _ w3 hsi1 HI2.out).mono ?_
  rintro e w4 ⟨v4, f4, rfl, o4, nd4, lo4, b4⟩
  replace S := (S.made o4 nd4 lo4 b4).sel [1, 2]
  clear o4 nd4 lo4 b4
  go_wp2_with fail
  refine (f6ints_is true _ _ l l _ _ w4 (decide_eq_true rfl) (S.rd 1 rfl) (S.rd 0 rfl)).mono ?_
  rintro e w5 ⟨rfl, b⟩
  replace S := (S.step b).sel [0]
  clear b
  obtain ⟨a, ac, rfl, -, -, -, -⟩ := rd_ints (S.rd 0 rfl)
  obtain ⟨m, hm⟩ : ∃ m, m = l.length := ⟨_, rfl⟩
  rw [← hm] at S ⊢
  have hmL : m = L.length := by rw [hm, HL.out, oList_len]
  have hm7 : m ≤ 7 := by rw [hmL]; exact HF.out.len
  have HMM := Lib.hid hm
  have HML := Lib.hid hmL
  clear hm hmL
  go_wp2
  have hdec : decide (due2 < due) = false := decide_eq_false (by omega)
  simp only [hdec]
  clear hdec
  go_loopw [15, 16, 17] (fun p t i wr => ∃ k P T : Nat, k ≤ m ∧ p = .int .i64 P ∧ t = .int .i64 T ∧ i = .int .i64 k ∧ Hid (P = prT L k ∧ T = suT L k) ∧ Star w wr [oE intsE [.slice a m ac] l]) (fun _ _ i _ => m - (intOf i).toNat)
  case atStart => exact ⟨0, 1, 0, by omega, rfl, rfl, rfl, Lib.hid ⟨rfl, rfl⟩, S⟩
  case round =>
    clear S
    obtain ⟨k, P, T, hk, rfl, rfl, rfl, HPT, S⟩ := hrel
    by_cases hlt : k < m
    case pos =>
      obtain ⟨p, o, rfl, hb, hc⟩ := S.ints 0 rfl k hlt
      obtain ⟨x, hx⟩ : ∃ x, x = L[k]?.getD 0 := ⟨_, rfl⟩
      have hlx : l[k]?.getD 0 = (x : Int) := by rw [HL.out, oList_at, hx]
      rw [hlx] at hc
      have hkL : k < L.length := by rw [← HML.out]; exact hlt
      obtain ⟨Q, hQ⟩ : ∃ Q, Q = P * x := ⟨_, rfl⟩
      have hQ2 : Q = prT L (k + 1) := by rw [hQ, prT_succ hkL, HPT.out.1, hx]
      have hT2 : T + x = suT L (k + 1) := by rw [suT_succ hkL, HPT.out.2, hx]
      have hpart := HF.out.part (k + 1) (by omega)
      rw [← hQ2, ← hT2] at hpart
      have hmul : (P : Int) * (x : Int) = (Q : Int) := by rw [hQ, Int.natCast_mul]
      have wQ : IntKind.i64.wrap (Q : Int) = (Q : Int) := IntWalk.i64_in _ ⟨by omega, by omega⟩
      have hx60 : x ≤ 60 := by rw [hx]; exact HF.out.small k hkL
      have HX := Lib.hid hx
      have HPT2 := Lib.hid (And.intro hQ2 hT2)
      clear hx hlx hQ hQ2 hT2 hkL
      go_wp2
      clear hmul wQ
      go_loopw [18] (fun q wr' => ∃ j : Nat, j ≤ k ∧ q = .int .i64 j ∧ Star w wr' [oE intsE [.slice (some ⟨p, o, none⟩) m ac] l]) (fun q _ => k - (intOf q).toNat)
      case atStart => exact ⟨0, by omega, rfl, S⟩
      case round =>
        clear S hc hb
        obtain ⟨j, hj, rfl, S⟩ := hrel
        by_cases hjk : j < k
        case pos =>
          obtain ⟨p1, o1, he, hb, hc⟩ := S.ints 0 rfl k hlt
          simp only [Option.some.injEq, Addr.mk.injEq, and_true] at he
          obtain ⟨rfl, rfl⟩ := he
          obtain ⟨p1, o1, he, -, hd⟩ := S.ints 0 rfl j (by omega)
          simp only [Option.some.injEq, Addr.mk.injEq, and_true] at he
          obtain ⟨rfl, rfl⟩ := he
          obtain ⟨y, hy⟩ : ∃ x, x = L[j]?.getD 0 := ⟨_, rfl⟩
          have hly : l[j]?.getD 0 = (y : Int) := by rw [HL.out, oList_at, hy]
          have hlx : l[k]?.getD 0 = (x : Int) := by rw [HL.out, oList_at, HX.out]
          rw [hlx] at hc
          rw [hly] at hd
          have hpair := HF.out.pair k j (by rw [← HML.out]; exact hlt) hjk
          rw [← HX.out, ← hy] at hpair
          obtain ⟨hyx, hg⟩ := hpair
          have t5 : ¬ (x : Int) ≤ (y : Int) := by omega
          have HG : Hid ((Nat.gcd x y : Int) = 1) := Lib.hid (by rw [hg]; rfl)
          have hov := cell_over wr
          have hjm : j < m := by omega
          clear hg hy hly hlx
          go_wp2
          refine wp_region_over (by kernel_rfl) (by kernel_rfl) ?_
          repeat (go_big_quiet_step ((go_at_call 13; exact calls_same (f6gcd_is 1 x y _ HG.out (by omega) (by omega)))))
          refine wpQuiet_nil ?_
          intro w1 hw1
          go_wp2
          go_roundw
          case rel =>
            exact ⟨j + 1, by omega, by go_num, S.step hw1⟩
          case measure => simp [intOf]; omega
        obtain rfl : j = k := by omega
        go_wp2
        go_roundw
        case rel => exact ⟨j + 1, Q, T + x, by omega, rfl, by go_num, by go_num, HPT2, S⟩
        case measure => simp [intOf]; omega
    obtain rfl : k = m := by omega
    have hall := HF.out.all
    rw [← HML.out, ← HPT.out.1, ← HPT.out.2] at hall
    obtain ⟨rfl, hTs⟩ := hall
    have hd1 := HF.out.due
    replace S := S.sel []
    clear HPT HML HMM HL
    go_wp2
    go_loopw [19, 20, 21] (fun f c i wr => ∃ k lf cm : Nat, ∃ ns : List Nat, k ≤ 5 ∧ f = .int .i64 lf ∧ c = .int .i64 cm ∧ i = .int .i64 k ∧ lf ≤ s ∧ 1 ≤ cm ∧ cm ≤ P ∧ Hid ((∀ n, n ∈ ns → 0 < n) ∧ ns.sum + lf = s ∧ cm = lcms ns) ∧ Star w wr []) (fun _ _ i _ => 5 - (intOf i).toNat)
    case atStart => exact ⟨0, s, 1, [], by omega, rfl, rfl, rfl, Nat.le_refl _, Nat.le_refl _, hd1.1, Lib.hid ⟨fun n h => absurd h List.not_mem_nil, Nat.zero_add _, rfl⟩, S⟩
    case round =>
      clear S
      obtain ⟨i, lf, cm, ns, hi5, rfl, rfl, rfl, hlf, hcm1, hcmP, HN, S⟩ := hrel
      by_cases hgo : i < 5 ∧ 0 < lf
      case neg =>
        have t6 : (T : Int) ≤ (s : Int) := by omega
        have t7 : (cm : Int) ≤ (P : Int) := by omega
        by_cases hi : i < 5
        · obtain rfl : lf = 0 := by omega
          go_wp2
          go_ret
          exact ⟨rfl, S.below⟩
        · have t8 : ¬ (i : Int) < 5 := by omega
          go_wp2
          go_ret
          exact ⟨rfl, S.below⟩
      obtain ⟨hi, hlf0⟩ := hgo
      have t8 : (0 : Int) < (lf : Int) := by omega
      have w8 : IntKind.u8.wrap (i : Int) = (i : Int) := by rw [IntKind.wrap_u8]; omega
      have S1 := (((S.alloc (cs := #[.int .u8 i]) (ty := 5)).byte (x := i) (by omega)).sel [1, 0]).lit1 rfl
      obtain ⟨css, fys, hys, hfy, hsrc⟩ := src_bytes (bytesE.rd_of S1.below h1)
      have hlen : [(i : Int)].length + more.length ≤ 1000000000000 := by simp; omega
      go_wp2_with (at_builtin; refine stS_ByteS S1 rfl rfl rfl hys hfy hsrc hlen ?_; intro sa sn sc w8 S8)
      go_wp2_with fail
      refine (P6Pick_any _ ([(i : Int)] ++ more) lf _ (by omega) (S8.rd 0 rfl)).mono ?_
      rintro e w9 ⟨n, rfl, hn, b9⟩
      replace S := (S8.step b9).sel []
      clear S1 S8 hys hfy hsrc hlen b9
      obtain ⟨y, hy⟩ : ∃ y, y = n + 1 := ⟨_, rfl⟩
      have hyc : (1 : Int) + (n : Int) = (y : Int) := by omega
      have hy1 : 1 ≤ y ∧ y ≤ lf := by omega
      clear hn hy
      obtain ⟨g, hg⟩ : ∃ g, g = Nat.gcd cm y := ⟨_, rfl⟩
      obtain ⟨q, hq⟩ : ∃ q, q = cm / g := ⟨_, rfl⟩
      obtain ⟨r, hr⟩ : ∃ r, r = q * y := ⟨_, rfl⟩
      have hr2 : r = Nat.lcm y cm := by rw [hr, hq, hg]; exact lcm_step cm y
      have hg1 : 1 ≤ g := by rw [hg]; exact Nat.gcd_pos_of_pos_left _ hcm1
      have hN := HN.out
      have HN2 : Hid ((∀ n, n ∈ y :: ns → 0 < n) ∧ (y :: ns).sum + (lf - y) = s ∧ r = lcms (y :: ns)) := Lib.hid ⟨fun n hn => by rcases List.mem_cons.1 hn with rfl | hn; exact hy1.1; exact hN.1 n hn, by rw [List.sum_cons]; omega, by rw [hr2, hN.2.2]; rfl⟩
      have hrP : r ≤ P := by rw [HN2.out.2.2]; exact HM.out (y :: ns) HN2.out.1 (by have := HN2.out.2.1; omega)
      have hr1 : 1 ≤ r := by rw [HN2.out.2.2]; exact lcms_pos _ HN2.out.1
      have hdiv : (cm : Int) / (g : Int) = (q : Int) := by rw [hq]; simp
      have hmul : (q : Int) * (y : Int) = (r : Int) := by rw [hr, Int.natCast_mul]
      have wr2 : IntKind.i64.wrap (r : Int) = (r : Int) := IntWalk.i64_in _ ⟨by omega, by omega⟩
      have hqle : q ≤ cm := by rw [hq]; exact Nat.div_le_self _ _
      have HG := Lib.hid hg.symm
      clear hg hq hr hr2 HN hN
      go_wp2_with fail
      refine (f6gcd_is (g : Int) cm y _ (by rw [HG.out]) (by omega) (by omega)).mono ?_
      rintro e w10 ⟨rfl, rfl⟩
      go_wp2
      go_roundw
      case rel => exact ⟨i + 1, lf - y, r, y :: ns, by omega, by go_num, rfl, by go_num, by omega, hr1, hrP, HN2, S⟩
      case measure => simp [intOf]; omega

end Go.Proofs.Ytaedgicglddihaa
