/-
  The reference's GreatestOrder.
-/
import Derived.Test.YtaedgicglddihaaOrdT
import Derived.Test.YtaedgicglddihaaSetE
import Derived.Test.YtaedgicglddihaaOrdPrime
import Derived.Test.YtaedgicglddihaaStarJ
import Derived.Test.YtaedgicglddihaaFuncs
namespace Go.Proofs.Ytaedgicglddihaa
open Go.RowKit

def ordAns (sum : Int) : Int × List Int × Int := if 0 ≤ sum ∧ sum ≤ 60 then (((ordSpec sum.toNat).1 : Int), oList (ordSpec sum.toNat).2, 0) else (0, [], 2)

/-- No divisor below d. -/
def noDiv (p d : Nat) : Bool := (List.range d).all fun e => decide (e < 2) || decide (p % e ≠ 0)
theorem noDiv_two (p : Nat) : noDiv p 2 = true := by
  unfold noDiv
  rw [List.all_eq_true]
  intro e he
  have := List.mem_range.1 he
  simp [this]
theorem noDiv_succ (p d : Nat) (hd : 2 ≤ d) : noDiv p (d + 1) = (noDiv p d && decide (p % d ≠ 0)) := by
  unfold noDiv
  rw [List.range_succ, List.all_append]
  simp [show ¬ d < 2 from by omega]
theorem noDiv_prime {p d : Nat} (h : p < d * d) (hd : ∀ e, 2 ≤ e → e < d → e * e ≤ p) : noDiv p d = ordPrime p := by
  cases hb : noDiv p d with
  | true =>
    unfold noDiv at hb
    rw [List.all_eq_true] at hb
    refine (ordPrime_yes h fun e h2 he => ?_).symm
    have := hb e (List.mem_range.2 he)
    simpa [show ¬ e < 2 from by omega] using this
  | false =>
    unfold noDiv at hb
    rw [List.all_eq_false] at hb
    obtain ⟨e, he, hh⟩ := hb
    have := List.mem_range.1 he
    simp at hh
    exact (ordPrime_no (d := e) (by omega) (hd e (by omega) this) hh.2).symm

theorem cellI {w : World} {x : Int} {u : Value} {f : List Nat} (h : intE.ow w [u] x f) : u = .int .i64 x := by
  have := h.1.1
  simpa using this

theorem best_cell {w0 w : World} {ps : List Ob} {T : OTab} {s g c : Nat} (S : Star w0 w ps) (n : Nat) (h : ps[n]? = some (oE intsE [.slice (some ⟨g, 0, none⟩) (s + 1) c] (oBest T))) (hT : T.length = s + 1) (i : Nat) (hi : i ≤ s) :
    w.cell? ⟨g, i, none⟩ = some (.int .i64 ((oAt T i).1 : Nat)) := by
  obtain ⟨g', c', e, -, -, -, -, hc⟩ := S.at0 n h (by rw [oBest_len]; omega) rfl
  simp only [Value.slice.injEq, Option.some.injEq, Addr.mk.injEq, and_true] at e
  obtain ⟨rfl, -, rfl⟩ := e
  obtain ⟨x, u, f, e1, e2, e3⟩ := hc i (by rw [oBest_len]; omega)
  have := cellI e3
  have e4 := oBest_at T i
  rw [e1] at e4
  rw [e2, this, ← e4]
  rfl

theorem parts_cell {w0 w : World} {ps : List Ob} {T : OTab} {s g c : Nat} (S : Star w0 w ps) (n : Nat) (h : ps[n]? = some (oE intssE [.slice (some ⟨g, 0, none⟩) (s + 1) c] (oParts T))) (hT : T.length = s + 1) (i : Nat) (hi : i ≤ s) :
    ∃ u, w.cell? ⟨g, i, none⟩ = some u ∧ intsE.rd w w.heap.size [u] (oList (oAt T i).2) := by
  obtain ⟨g', c', e, -, -, -, -, hc⟩ := S.at0 n h (by rw [oParts_len]; omega) rfl
  simp only [Value.slice.injEq, Option.some.injEq, Addr.mk.injEq, and_true] at e
  obtain ⟨rfl, -, rfl⟩ := e
  obtain ⟨x, u, f, e1, e2, e3⟩ := hc i (by rw [oParts_len]; omega)
  have e4 := oParts_at T i
  rw [e1] at e4
  refine ⟨u, e2, ?_⟩
  rw [← e4]
  exact intsE.rd_ow e3

set_option maxHeartbeats 8000000 in
set_option maxRecDepth 100000 in
theorem specOrd_is (sum : Int) (x : Int × List Int × Int) (w : World) (h64 : -9223372036854775808 ≤ sum ∧ sum ≤ 9223372036854775807) (hx : ordAns sum = x) :
    Calls Try.prog 5 #[.int .i64 sum] w (Makes intsE (fun v => .tuple #[.int .i64 x.1, v, .int .i64 x.2.2]) x.2.1 w) := by
  have HX := Lib.hid hx
  clear hx
  go_enter Try.func5, Try.ntmps5
  by_cases hs : 0 ≤ sum ∧ sum ≤ 60
  case neg =>
    have ht : within sum 0 60 = false := within_ne hs
    obtain rfl : x = (0, [], 2) := by rw [← HX.out]; exact if_neg hs
    have S := ((Star.nil w).alloc (cs := #[]) (ty := 2)).lit0 (α := Int) (E := intE)
    go_wp2_with ((go_at_call 14; refine (l00In_is _ _ _ _ _ ht).mono ?_; rintro e w1 ⟨rfl, rfl⟩))
    obtain ⟨f, h1, h2, h3⟩ := S.out
    exact bodyPost_ret (v := .tuple #[.int .i64 0, .slice (some ⟨w.heap.size, 0, none⟩) 0 0, .int .i64 2]) (by simp [results, Try.results5, go_sem]) rfl ⟨_, f, rfl, h1, h2, h3, S.below⟩
  obtain ⟨s, rfl⟩ : ∃ s : Nat, sum = s := ⟨sum.toNat, by omega⟩
  have hs60 : s ≤ 60 := by omega
  have ht := Lib.hid (within_eq hs)
  clear hs h64
  have HX : Hid (x = (((ordSpec s).1 : Int), oList (ordSpec s).2, 0)) := Lib.hid (by rw [← HX.out]; unfold ordAns; rw [if_pos ⟨by omega, by omega⟩]; rfl)
  go_wp2_with ((go_at_call 14; refine (l00In_is _ _ _ _ _ ht.out).mono ?_; rintro e w1 ⟨rfl, rfl⟩))
  generalize hW : (w.alloc _).alloc _ = w0
  have S : Star w w0 [oE intsE [.slice (some ⟨w.heap.size, 0, none⟩) 0 0] [], oE intssE [.slice (some ⟨w.heap.size + 1, 0, none⟩) 0 0] []] := by
    have := ((((Star.nil w).alloc (cs := #[]) (ty := 2)).lit0 (α := Int) (E := intE)).alloc (cs := #[]) (ty := 22)).lit0 (α := List Int) (E := intsE)
    rw [World.size_alloc, hW] at this
    exact this.sel [1, 0]
  clear hW ht
  go_loopw [5, 6, 7] (fun vb vp q wr => ∃ k : Nat, ∃ vb' vp', k ≤ s + 1 ∧ vb = vb' ∧ vp = vp' ∧ q = .int .i64 k ∧ Star w wr [oE intsE [vb'] (List.replicate k 1), oE intssE [vp'] (List.replicate k [])]) (fun _ _ q _ => s + 1 - (intOf q).toNat)
  case atStart => exact ⟨0, _, _, by omega, rfl, rfl, rfl, S⟩
  case round =>
    clear S
    obtain ⟨k, vb, vp, hk, rfl, rfl, rfl, S⟩ := hrel
    by_cases hlt : k ≤ s
    case pos =>
      have t1 : (k : Int) ≤ (s : Int) := by omega
      obtain ⟨ba, bn, bc, rfl⟩ := S.slc 0 rfl
      obtain ⟨pa, pn, pc, rfl⟩ := S.slc 1 rfl
      have hl1 : (List.replicate k (1 : Int)).length ≤ 1000000000000 := by simp; omega
      have hl2 : (List.replicate k ([] : List Int)).length ≤ 1000000000000 := by simp; omega
      have S1 := ((S.alloc (cs := #[.int .i64 1]) (ty := 2)).int (x := 1) (by omega)).sel [2, 0, 3]
      go_wp2_with (first
        | (at_builtin; refine st1_Int64SS S3 rfl rfl rfl rfl (by first | exact cell_a1 | exact cell_a2) (one_mem rfl) hl2 ?_; intro qa qn qc w9 S9)
        | (at_builtin; refine st1_Int64S S1 rfl rfl rfl rfl cell_a1 (one_mem rfl) hl1 ?_; intro ta tn tc w8 S8; have S3 := (((S8.alloc (cs := #[]) (ty := 2)).lit0 (α := Int) (E := intE)).alloc (cs := #[.slice (some ⟨w8.heap.size, 0, none⟩) 0 0]) (ty := 22)).sel [3, 1, 2]))
      go_roundw
      case rel => exact ⟨k + 1, _, _, by omega, rfl, rfl, by go_num, by rw [List.replicate_succ', List.replicate_succ']; exact S9.sel [1, 0]⟩
      case measure => simp [intOf]; omega
    have t1 : ¬ (k : Int) ≤ (s : Int) := by omega
    obtain rfl : k = s + 1 := by omega
    obtain ⟨g, c, rfl, -, fz1, cl1, cm1, -⟩ := S.at0 0 rfl (by simp) rfl
    obtain ⟨h, e, rfl, -, fz2, cl2, cm2, -⟩ := S.at0 1 rfl (by simp) rfl
    rw [List.length_replicate] at S cl1 cl2 ⊢
    rw [List.length_replicate] at S ⊢
    obtain ⟨T, hT⟩ : ∃ T, T = List.replicate (s + 1) ((1, []) : OEnt) := ⟨_, rfl⟩
    obtain ⟨TF, hTF⟩ : ∃ TF, TF = (upTo s 2).foldl (ordPrimeS s) T := ⟨_, rfl⟩
    have HF : Hid (ordSpec s = oAt TF s) := Lib.hid (by rw [hTF, hT]; unfold ordSpec upTo; rw [show s + 1 - 2 = s - 1 from by omega]; rfl)
    have HT : Hid (TabOk s T ∧ TabRises T) := Lib.hid (by rw [hT]; exact ⟨TabOk.start s, TabRises.start s⟩)
    replace S : Star w wr [oE intsE [.slice (some ⟨g, 0, none⟩) (s + 1) c] (oBest T), oE intssE [.slice (some ⟨h, 0, none⟩) (s + 1) e] (oParts T)] := by
      rw [hT]; unfold oBest oParts; rw [List.map_replicate, List.map_replicate]; exact S
    clear hT fz1 fz2
    go_wp2
    have h21 : upTo s 2 = upTo s 2 := rfl
    go_loopw [8] (fun q wr => ∃ p : Nat, ∃ T, 2 ≤ p ∧ p ≤ 61 ∧ q = .int .i64 p ∧ Hid ((upTo s p).foldl (ordPrimeS s) T = TF) ∧ Hid (TabOk s T ∧ TabRises T) ∧ Star w wr [oE intsE [.slice (some ⟨g, 0, none⟩) (s + 1) c] (oBest T), oE intssE [.slice (some ⟨h, 0, none⟩) (s + 1) e] (oParts T)]) (fun q _ => 61 - (intOf q).toNat)
    case atStart => exact ⟨2, T, by omega, by omega, rfl, Lib.hid hTF.symm, HT, S⟩
    case round =>
      clear S HT hTF h21
      obtain ⟨p, T, hp2, hp61, rfl, HP, HT, S⟩ := hrel
      by_cases hle : p ≤ s
      case neg =>
        have t1 : ¬ (p : Int) ≤ (s : Int) := by omega
        have hp := HP.out
        rw [upTo_nil (by omega)] at hp
        obtain rfl : T = TF := hp
        have c1 := best_cell S 0 rfl HT.out.1.len s (Nat.le_refl _)
        obtain ⟨u, c2, -⟩ := parts_cell S 1 rfl HT.out.1.len s (Nat.le_refl _)
        have S2 := S.sel [1]
        have S3 := S2.elem rfl s (oList (oAt T s).2) (by rw [oParts_get T s (by have := HT.out.1.len; omega)]) c2
        go_wp2
        go_quiet (fail)
        go_wp2
        rename_i nq
        have S4 := S3.step (below_drewN (Below.refl _ _) nq)
        obtain ⟨f, h1, h2, h3⟩ := S4.out
        obtain rfl := HX.out
        rw [← HF.out] at h1
        exact bodyPost_ret (v := .tuple #[.int .i64 (ordSpec s).1, u, .int .i64 0]) (by simp [results, Try.results5, go_sem, HF.out]) rfl ⟨_, f, rfl, h1, h2, h3, S4.below⟩
      have t1 : (p : Int) ≤ (s : Int) := by omega
      have hp := HP.out
      rw [upTo_cons hle] at hp
      obtain ⟨TP, hTP⟩ : ∃ TP, TP = ordPrimeS s T p := ⟨_, rfl⟩
      rw [List.foldl_cons, ← hTP] at hp
      have HP := Lib.hid hp
      have HTP := Lib.hid hTP
      clear hp hTP
      go_wp2
      go_loopw [9, 10] (fun b q wr' => ∃ d : Nat, ∃ b', 2 ≤ d ∧ d ≤ 9 ∧ b = .bool b' ∧ q = .int .i64 d ∧ wr = wr' ∧ Hid (noDiv p d = b') ∧ Hid (∀ e, 2 ≤ e → e < d → e * e ≤ p)) (fun _ q _ => 9 - (intOf q).toNat)
      case atStart => exact ⟨2, true, by omega, by omega, rfl, rfl, rfl, Lib.hid (noDiv_two p), Lib.hid (fun e h1 h2 => by omega)⟩
      case round =>
        obtain ⟨d, b, hd2, hd9, rfl, rfl, rfl, HB, HE⟩ := hrel
        obtain ⟨dd, hdd⟩ : ∃ q, q = d * d := ⟨_, rfl⟩
        have hd81 : dd ≤ 81 := by rw [hdd]; exact Nat.mul_le_mul hd9 hd9
        have hmul : (d : Int) * (d : Int) = (dd : Int) := by rw [hdd, Int.natCast_mul]
        have wd : IntKind.i64.wrap (dd : Int) = (dd : Int) := IntWalk.i64_in _ ⟨by omega, by omega⟩
        have hd0 : ¬ d = 0 := by omega
        have HD := Lib.hid hdd; clear hdd
        by_cases hdle : dd ≤ p
        case pos =>
          have t2 : (dd : Int) ≤ (p : Int) := by omega
          have hd8 : d + 1 ≤ 9 := by
            refine Nat.lt_of_le_of_ne hd9 (fun e => ?_)
            have := HD.out
            rw [e] at this
            omega
          obtain ⟨z, hz⟩ : ∃ q, q = p % d := ⟨_, rfl⟩
          have hrem : (p : Int).tmod (d : Int) = (z : Int) := by rw [hz]; rfl
          have HN := Lib.hid (noDiv_succ p d hd2)
          have HE2 : Hid (∀ e, 2 ≤ e → e < d + 1 → e * e ≤ p) := Lib.hid (fun e h1 h2 => by by_cases he : e = d; (subst he; have := HD.out; omega); exact HE.out e h1 (by omega))
          have HZ := Lib.hid hz; clear hz
          cases hb : b
          case false =>
            have HB2 : Hid (noDiv p (d + 1) = false) := Lib.hid (by rw [HN.out, HB.out, hb]; rfl)
            subst hb
            go_wp2
            go_roundw
            case rel => exact ⟨d + 1, _, by omega, by omega, rfl, by go_num, trivial, HB2, HE2⟩
            case measure => simp [intOf]; omega
          subst hb
          by_cases hz0 : z = 0
          · have HB2 : Hid (noDiv p (d + 1) = false) := Lib.hid (by rw [HN.out, HB.out, ← HZ.out, hz0]; rfl)
            subst hz0
            go_wp2
            go_roundw
            case rel => exact ⟨d + 1, _, by omega, by omega, rfl, by go_num, trivial, HB2, HE2⟩
            case measure => simp [intOf]; omega
          · have HB2 : Hid (noDiv p (d + 1) = true) := Lib.hid (by rw [HN.out, HB.out, ← HZ.out]; simp [hz0])
            have t3 : ((z : Int) != 0) = true := by simp; omega
            go_wp2
            go_roundw
            case rel => exact ⟨d + 1, _, by omega, by omega, rfl, by go_num, trivial, HB2, HE2⟩
            case measure => simp [intOf]; omega
        have t2 : ¬ (dd : Int) ≤ (p : Int) := by omega
        have HB2 : Hid (ordPrime p = b) := Lib.hid (by rw [← HB.out]; exact (noDiv_prime (by have := HD.out; omega) HE.out).symm)
        clear HB HE HD
        go_wp2
        clear hmul wd hd0 hd81 hdle hd9 hd2 t2
        go_loopw [11] (fun q wr => ∃ n : Nat, ∃ T', n ≤ s ∧ 1 ≤ n ∧ q = .int .i64 n ∧ Hid ((if b = true then (upTo n p).reverse.foldl (ordNum p) T' else T') = TP) ∧ Hid (TabOk s T' ∧ TabRises T') ∧ Star w wr [oE intsE [.slice (some ⟨g, 0, none⟩) (s + 1) c] (oBest T'), oE intssE [.slice (some ⟨h, 0, none⟩) (s + 1) e] (oParts T')]) (fun q _ => (intOf q).toNat)
        case atStart => exact ⟨s, T, by omega, by omega, rfl, Lib.hid (by rw [HTP.out]; unfold ordPrimeS; rw [HB2.out]; rfl), HT, S⟩
        case round =>
          clear S HT HTP
          obtain ⟨n, T', hns, hn1, rfl, HN, HT, S⟩ := hrel
          by_cases hgo : b = true ∧ p ≤ n
          case neg =>
            have hTP : T' = TP := by
              have hN := HN.out
              by_cases hb : b = true
              · rw [if_pos hb, upTo_nil (by by_cases hpn : p ≤ n; exact absurd ⟨hb, hpn⟩ hgo; omega)] at hN; exact hN
              · rw [if_neg hb] at hN; exact hN
            subst hTP
            clear HN
            cases hb : b
            · subst hb
              clear hgo
              by_cases hpn : p ≤ n
              · have t3 : (p : Int) ≤ (n : Int) := by omega
                go_wp2
                go_roundw
                case rel => exact ⟨p + 1, _, by omega, by omega, by go_num, HP, HT, S⟩
                case measure => simp [intOf]; omega
              · have t3 : ¬ (p : Int) ≤ (n : Int) := by omega
                go_wp2
                go_roundw
                case rel => exact ⟨p + 1, _, by omega, by omega, by go_num, HP, HT, S⟩
                case measure => simp [intOf]; omega
            · subst hb
              have t3 : ¬ (p : Int) ≤ (n : Int) := by simp at hgo; omega
              clear hgo
              go_wp2
              go_roundw
              case rel => exact ⟨p + 1, _, by omega, by omega, by go_num, HP, HT, S⟩
              case measure => simp [intOf]; omega
          obtain ⟨rfl, hpn⟩ := hgo
          have hN := HN.out
          rw [if_pos rfl, upTo_last hpn hn1, List.foldl_cons] at hN
          obtain ⟨TN, hTN⟩ : ∃ TN, TN = ordNum p T' n := ⟨_, rfl⟩
          rw [← hTN] at hN
          have HN := Lib.hid hN
          have HTN := Lib.hid hTN
          clear hN hTN
          have t3 : (p : Int) ≤ (n : Int) := by omega
          have hn60 : n ≤ 60 := by omega
          go_wp2
          go_loopw [12] (fun q wr => ∃ k fu : Nat, ∃ T'', 1 ≤ k ∧ k ≤ 3600 ∧ q = .int .i64 k ∧ Hid (64 ≤ k * 2 ^ fu) ∧ Hid ((ordPowers p n fu k).foldl (ordPow n) T'' = TN) ∧ Hid (TabOk s T'' ∧ TabRises T'') ∧ Star w wr [oE intsE [.slice (some ⟨g, 0, none⟩) (s + 1) c] (oBest T''), oE intssE [.slice (some ⟨h, 0, none⟩) (s + 1) e] (oParts T'')]) (fun q _ => 61 - (intOf q).toNat)
          case atStart => exact ⟨p, 6, T', by omega, by omega, rfl, Lib.hid (by omega), Lib.hid (by rw [HTN.out]; rfl), HT, S⟩
          case round =>
            clear S HT HTN
            obtain ⟨k, fu, T'', hk1, hk36, rfl, HF2, HN2, HT, S⟩ := hrel
            by_cases hkn : k ≤ n
            case neg =>
              have t4 : ¬ (k : Int) ≤ (n : Int) := by omega
              have hN := HN2.out
              rw [powers_nil (by omega)] at hN
              obtain rfl : T'' = TN := hN
              clear HN2
              go_wp2
              go_roundw
              case rel => exact ⟨n - 1, _, by omega, by omega, by simp; omega, HN, HT, S⟩
              case measure => simp [intOf]; omega
            have t4 : (k : Int) ≤ (n : Int) := by omega
            obtain ⟨fu', hpc, hfu⟩ := powers_cons hp2 hn60 HF2.out hkn
            have hN := HN2.out
            rw [hpc, List.foldl_cons] at hN
            have HN3 := Lib.hid hN
            have HFU := Lib.hid hfu
            clear hN HN2 HF2 hpc hfu
            obtain ⟨d, hd⟩ : ∃ d, n = d + k := ⟨n - k, by omega⟩
            have hOK := HT.out.1
            have cA := best_cell S 0 rfl hOK.len d (by omega)
            have cB := best_cell S 0 rfl hOK.len n (by omega)
            obtain ⟨a, ha⟩ : ∃ a, a = (oAt T'' d).1 := ⟨_, rfl⟩
            obtain ⟨b2, hb2⟩ : ∃ a, a = (oAt T'' n).1 := ⟨_, rfl⟩
            obtain ⟨pr, hpr⟩ : ∃ q, q = a * k := ⟨_, rfl⟩
            have hpr2 : pr ≤ 2 ^ n := by rw [hpr]; exact val_mul (by rw [ha]; exact hOK.val d (by omega)) hd.symm
            have hpr60 : pr ≤ 1152921504606846976 := Nat.le_trans hpr2 (two_60 hn60)
            have hmulk : (a : Int) * (k : Int) = (pr : Int) := by rw [hpr, Int.natCast_mul]
            have wpr : IntKind.i64.wrap (pr : Int) = (pr : Int) := IntWalk.i64_in _ ⟨by omega, by omega⟩
            have hsub : (n : Int) - (k : Int) = (d : Int) := by omega
            have wsub : IntKind.i64.wrap (d : Int) = (d : Int) := IntWalk.i64_in _ ⟨by omega, by omega⟩
            have hpos : 1 ≤ pr := by rw [hpr]; exact Nat.mul_pos (by rw [ha]; exact hOK.pos d (by omega)) hk1
            rw [← ha] at cA
            rw [← hb2] at cB
            obtain ⟨TK, hTK⟩ : ∃ TK, TK = ordPow n T'' k := ⟨_, rfl⟩
            rw [← hTK] at HN3
            have hTK2 : TK = if b2 < pr then T''.set n (pr, ordPut (oAt T'' d).2 k) else T'' := by
              rw [hTK]; unfold ordPow
              rw [show n - k = d from by omega, hpr, ha, hb2]; rfl
            obtain ⟨P, hP⟩ : ∃ P, P = (oAt T'' d).2 := ⟨_, rfl⟩
            have hPl : P.length ≤ d := by rw [hP]; exact hOK.parts d (by omega)
            have hPs : ∀ x, x ∈ P → x ≤ 60 := by rw [hP]; exact hOK.small d (by omega)
            have hPr : Rises P := by rw [hP]; exact HT.out.2 d
            have hlenT := hOK.len
            rw [← hP] at hTK2
            have HTK := Lib.hid hTK2
            have HPR := Lib.hid (And.intro hpr2 hpos)
            have HD := Lib.hid hd
            have HPP := Lib.hid hP
            have hdn : d + k = n := hd.symm
            have HPX := Lib.hid (And.intro hPs hPr)
            have HA := Lib.hid ha
            have hds : d ≤ s := by omega
            have hT2 : (oBest T'').length = s + 1 := by rw [oBest_len]; exact hlenT
            have hT3 : (oParts T'').length = s + 1 := by rw [oParts_len]; exact hlenT
            have HT2 := Lib.hid hT2
            have HT3 := Lib.hid hT3
            clear hTK hTK2 hpr hpr2 ha hb2 hOK hpos hd hP hdn hPs hPr hT2 hT3 hlenT
            have hkm : (k : Int) * (p : Int) = ((k * p : Nat) : Int) := by rw [Int.natCast_mul]
            obtain ⟨kp, hkp⟩ : ∃ q, q = k * p := ⟨_, rfl⟩
            have hkp1 : k + 1 ≤ kp := by
              have := Nat.mul_le_mul_left k hp2
              omega
            have hkp2 : kp ≤ 3600 := by
              have := Nat.mul_le_mul (Nat.le_trans hkn hn60) (Nat.le_trans hpn hn60)
              omega
            rw [← hkp] at hkm HN3 HFU
            have wkp : IntKind.i64.wrap (kp : Int) = (kp : Int) := IntWalk.i64_in _ ⟨by omega, by omega⟩
            clear hkp
            by_cases hgt : b2 < pr
            case neg =>
              have t5 : ¬ (b2 : Int) < (pr : Int) := by omega
              have hTT : TK = T'' := by rw [HTK.out, if_neg hgt]
              rw [hTT] at HN3
              go_wp2
              go_quiet (fail)
              rename_i nq
              go_wp2
              go_roundw
              case rel => exact ⟨kp, fu', T'', by omega, by omega, by go_num, HFU, HN3, HT, S.step (below_drewN (Below.refl _ _) nq)⟩
              case measure => simp [intOf]; omega
            have t5 : (b2 : Int) < (pr : Int) := by omega
            have hTT : TK = T''.set n (pr, ordPut P k) := by rw [HTK.out, if_pos hgt]
            have HTT := Lib.hid hTT
            clear hTT HTK
            go_wp2
            go_quiet (fail)
            rename_i nq
            replace S := S.step (below_drewN (Below.refl _ _) nq)
            generalize hW : wr.drewN nq = wd at S ⊢
            clear hW cA cB
            have cA := best_cell S 0 rfl (by rw [← HT2.out, oBest_len]) d hds
            rw [← HA.out] at cA
            have cB := best_cell S 0 rfl (by rw [← HT2.out, oBest_len]) n hns
            have hnl : n < (oBest T'').length := by rw [HT2.out]; omega
            have hnl2 : n < (oParts T'').length := by rw [HT3.out]; omega
            have S1 := ((S.int (x := (pr : Int)) ⟨by omega, by omega⟩).sel [1, 0, 2]).setE rfl n hnl
            obtain ⟨u, cP, rP⟩ := parts_cell S1 1 rfl (by rw [← HT2.out, oBest_len]) d hds
            have fz1 := S.free0 0 rfl (by omega) rfl
            clear S
            rw [← HPP.out] at rP
            have hPl2 : (oList P).length ≤ 1000000 := by rw [oList_len]; omega
            go_wp2_with fail
            generalize hW : wd.setCell _ _ = we at S1 rP ⊢
            clear hW cP fz1 cA cB
            refine (l00Own_any u (oList P) _ we (Nat.le_refl _) rP hPl2).mono ?_
            rintro ee w5 ⟨v5, f5, rfl, o5, nd5, lo5, b5⟩
            replace S1 := S1.made o5 nd5 lo5 b5
            clear o5 nd5 lo5 b5 rP
            go_wp2_with fail
            refine (l00Put_any v5 (oList P) k ⟨by omega, by omega⟩ _ w5 (Nat.le_refl _) (S1.rd 0 rfl) hPl2).mono ?_
            rintro ee w6 ⟨v6, f6, rfl, o6, nd6, lo6, b6⟩
            have S2 := (S1.made o6 nd6 lo6 b6).sel [3, 0, 2]
            clear S1 o6 nd6 lo6 b6
            obtain ⟨sa, sn, sc, rfl⟩ := S2.slc 1 rfl
            have fz2 := S2.free0 0 rfl (by omega) rfl
            obtain ⟨u9, cH, -⟩ := parts_cell S2 0 rfl (by rw [← HT2.out, oBest_len]) n hns
            have S3 := (S2.setE rfl n hnl2).sel [1, 0]
            clear S2
            go_wp2
            go_roundw
            case rel =>
              refine ⟨kp, fu', T''.set n (pr, ordPut P k), by omega, by omega, by go_num, HFU, Lib.hid (by rw [← HTT.out]; exact HN3.out), Lib.hid ⟨HT.out.1.set hns HPR.out.2 HPR.out.1 ?_ ?_, HT.out.2.set (rises_put k HPX.out.2)⟩, ?_⟩
              · have := put_len P k
                have := HD.out
                exact Nat.le_trans (put_len P k) (by omega)
              · intro x hx
                rcases put_mem hx with h | h
                · exact HPX.out.1 x h
                · omega
              · rw [oBest_set, oParts_set, ← putGo_put _ _ HPX.out.2]
                exact S3
            case measure => simp [intOf]; omega

end Go.Proofs.Ytaedgicglddihaa
