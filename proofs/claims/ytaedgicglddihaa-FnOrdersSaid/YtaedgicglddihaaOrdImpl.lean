/-
  The program's GreatestOrder.
-/
import Derived.Test.YtaedgicglddihaaOrdRep
import Derived.Test.YtaedgicglddihaaOrdPrime
import Derived.Test.YtaedgicglddihaaStep
import Derived.Test.YtaedgicglddihaaFuncs
namespace Go.Proofs.Ytaedgicglddihaa
open Go.RowKit

def ordAnsI (sum : Int) : Int × List Int × Int := if 0 ≤ sum ∧ sum ≤ 60 then (((ordImpl sum.toNat).1 : Int), oList (ordImpl sum.toNat).2, 0) else (0, [], 2)

theorem wIs (r : Bool) (n lo hi : Int) (w : World) (h : within n lo hi = r) : Calls Try.prog 17 #[.int .i64 n, .int .i64 lo, .int .i64 hi] w (Gives (.bool r) w) := h ▸ within_any n lo hi w

theorem Star.blocked2 {w0 w w' : World} {ps : List Ob} {cs : List Value} {ty : TypeId} {q : Nat} (S : Star w0 w ps) (h : Blk w' q cs ty) (lo : w.heap.size ≤ q) (hb : Below w.heap.size w w') : Star w0 w' (oB q cs ty :: ps) :=
  S.push (f := [q]) hb ⟨h, rfl⟩ (by simp) (fun b hb => by have e : b = q := by simpa using hb
                                                          omega) (fun b hb => by have e : b = q := by simpa using hb
                                                                                 have := h.lt; omega)

theorem Star.rawSlc {w0 w : World} {ps : List Ob} (S : Star w0 w ps) (n : Nat) {v : Value} {R : List (Value × Value)} (h : ps[n]? = some (oE tabE [v] R)) (hl : 0 < R.length) : ∃ g c, v = .slice (some ⟨g, 0, none⟩) R.length c := by
  obtain ⟨f, v', xss, fps, he, h1, h2, rfl⟩ := S.own n h
  simp only [List.cons.injEq, and_true] at he
  subst he
  obtain ⟨hx, h3⟩ := h2
  rcases h3 with ⟨-, h3⟩ | ⟨g', cap, cur, e3', hg, hh, hc, hm, hs, ht⟩
  · omega
  exact ⟨g', cap, e3'⟩

theorem Star.raws {w0 w : World} {ps : List Ob} {q : Nat} {R : List (Value × Value)} {n : Nat} (S : Star w0 w (oB q (R.flatMap cRaw) 40 :: ps)) (hn : R.length = n) (ho : ∀ p, p ∈ R → p.1.oneCell' = true ∧ p.2.oneCell' = true) (hl : n ≤ maxLen) : Star w0 w (oE tabE [.slice (some ⟨q, 0, none⟩) n n] R :: ps) :=
  S.lits (E := rawE) R cRaw n hn rfl (fun x hx => ⟨⟨rfl, ho x hx⟩, rfl⟩) hl

set_option maxHeartbeats 8000000 in
set_option maxRecDepth 100000 in
theorem implOrd_is (sum : Int) (x : Int × List Int × Int) (w : World) (h64 : -9223372036854775808 ≤ sum ∧ sum ≤ 9223372036854775807) (hx : ordAnsI sum = x) :
    Calls Try.prog 6 #[.int .i64 sum] w (Makes intsE (fun v => .tuple #[.int .i64 x.1, v, .int .i64 x.2.2]) x.2.1 w) := by
  have HX := Lib.hid hx
  clear hx
  go_enter Try.func6, Try.ntmps6
  by_cases hs : 0 ≤ sum ∧ sum ≤ 60
  case neg =>
    have ht : within sum 0 60 = false := within_ne hs
    obtain rfl : x = (0, [], 2) := by rw [← HX.out]; exact if_neg hs
    go_wp2_with ((go_at_call 17; refine (wIs _ _ _ _ _ ht).mono ?_; rintro e w1 ⟨rfl, b⟩))
    exact bodyPost_ret (v := .tuple #[.int .i64 0, .slice none 0 0, .int .i64 2]) (by simp [results, Try.results6, go_sem]) rfl ⟨_, [], rfl, ow_nil _ _ _, List.nodup_nil, (fun b hb => by cases hb), b⟩
  obtain ⟨s, rfl⟩ : ∃ s : Nat, sum = s := ⟨sum.toNat, by omega⟩
  have hs60 : s ≤ 60 := by omega
  have ht := Lib.hid (within_eq hs)
  clear hs h64
  have HX : Hid (x = (((ordImpl s).1 : Int), oList (ordImpl s).2, 0)) := Lib.hid (by rw [← HX.out]; unfold ordAnsI; rw [if_pos ⟨by omega, by omega⟩]; rfl)
  have w1s : IntKind.i64.wrap ((s : Int) + 1) = ((s + 1 : Nat) : Int) := by rw [IntWalk.i64_in _ ⟨by omega, by omega⟩]; omega
  go_wp2_with fail
  refine (wIs _ _ _ _ _ ht.out).mono ?_
  rintro e w1 ⟨rfl, b⟩
  have S := ((Star.nil w).step b).alloc (cs := #[.int .i64 1, .slice none 0 0]) (ty := 40)
  have hA := (S.blk 0 rfl)
  have hrep := repeat_prod (.int .i64 1, .slice none 0 0) w1.heap.size 1 (s + 1) ⟨by omega, by omega⟩ (w1.alloc (.cells #[.int .i64 1, .slice none 0 0] 40)) rfl rfl (fun j v hv => by rw [Addr.add_lit, Nat.zero_add]; exact hA.cell j hv) hA.lt
  have HR := Lib.hid hrep
  clear hA hrep b ht
  go_wp2_with fail
  refine HR.out.mono ?_
  rintro e w2 ⟨g, rfl, hB, hlo, b2⟩
  clear HR
  replace S := ((S.sel []).blocked2 hB hlo b2).raws (R := List.replicate (s + 1) (.int .i64 1, .slice none 0 0)) (n := s + 1) (by simp) (fun p hp => by obtain ⟨-, rfl⟩ := List.mem_replicate.1 hp; exact ⟨rfl, rfl⟩) (by simp [maxLen]; omega)
  replace S := S.pool0.sel [1, 0]
  clear hB hlo b2
  obtain ⟨TF, hTF⟩ : ∃ TF, TF = ordTab s := ⟨_, rfl⟩
  have HF : Hid ((upTo s 2).foldl (ordPrimeStep s) (List.replicate (s + 1) (1, [])) = TF) := Lib.hid (by rw [hTF]; unfold ordTab upTo; rw [show s + 1 - 2 = s - 1 from by omega])
  have HXF : Hid (x = (((oAt TF s).1 : Int), oList (ordSorted (oAt TF s).2), 0)) := Lib.hid (by rw [HX.out, hTF]; rfl)
  clear hTF HX
  go_wp2
  go_loopw [5, 6] (fun vb q wr => ∃ p : Nat, ∃ T g c R vs, 2 ≤ p ∧ p ≤ 61 ∧ vb = .slice (some ⟨g, 0, none⟩) (s + 1) c ∧ q = .int .i64 p ∧ Hid ((upTo s p).foldl (ordPrimeStep s) T = TF) ∧ Hid (TabOk s T ∧ TabRaw T R vs) ∧ Star w wr [oE tabE [.slice (some ⟨g, 0, none⟩) (s + 1) c] R, oPool vs]) (fun _ q _ => 61 - (intOf q).toNat)
  case atStart => exact ⟨2, _, g, _, _, _, by omega, by omega, rfl, rfl, HF, Lib.hid ⟨TabOk.start s, TabRaw.start (s + 1)⟩, S⟩
  case round =>
    clear S HF
    obtain ⟨p, T, g, c, R, vs, hp2, hp61, rfl, rfl, HP, HT, S⟩ := hrel
    by_cases hle : p ≤ s
    case neg =>
      have t1 : ¬ (p : Int) ≤ (s : Int) := by omega
      have hp := HP.out
      rw [upTo_nil (by omega)] at hp
      obtain rfl : T = TF := hp
      clear HP
      obtain ⟨u, hu1, hu2⟩ := HT.out.2.row s (by rw [HT.out.1.len]; omega)
      have rU := S.poolRd 1 rfl hu2
      obtain ⟨ua, un, uc, rfl⟩ := rd_slice rU
      obtain ⟨cA, cU⟩ := S.rawAt 0 rfl s _ hu1
      simp only at cA cU
      clear rU hu1
      obtain ⟨P, hP⟩ : ∃ P, P = (oAt T s).2 := ⟨_, rfl⟩
      obtain ⟨a, ha⟩ : ∃ a, a = (oAt T s).1 := ⟨_, rfl⟩
      have hPl : P.length ≤ s := by rw [hP]; exact HT.out.1.parts s (Nat.le_refl _)
      rw [← ha] at cA
      rw [← hP] at hu2
      have HX2 : Hid (x = ((a : Int), oList (ordSorted P), 0)) := Lib.hid (by rw [HXF.out, ha, hP])
      have HU := Lib.hid hu2
      have t2 : (s : Int) < (s : Int) + 1 := by omega
      have hPl2 : (oList P).length ≤ 1000000000000 := by rw [oList_len]; omega
      have hPl3 : (oList P).length ≤ 1000000 := by rw [oList_len]; omega
      clear ha hP hu2 HXF HT
      go_wp2
      go_upto_region 20 with fail
      replace S := S.alloc (cs := #[.int .i64 (a : Int), .slice ua un uc]) (ty := 40)
      generalize hW : wr.alloc _ = wa at S ⊢
      obtain ⟨q, hq⟩ : ∃ q, q = wr.heap.size := ⟨_, rfl⟩
      rw [← hq] at S ⊢
      clear hW hq cA cU
      have q0 := (S.blk 0 rfl).cell 0 rfl
      have q1 := (S.blk 0 rfl).cell 1 rfl
      have lq0 := World.block_lt_of_cell? wa _ q0
      have lq1 := World.block_lt_of_cell? wa _ q1
      have SD := S.drew
      go_region_law (first
        | (with_reducible show (if _ then Oper.wp _ { dst := some 82, op := _, type := _, pos := _, after := _, guard := _ } _ _ _ _ else _)
           go_simp; go_at_call 21
           refine (clone_ints _ (oList P) _ _ (Nat.le_refl _) (by exact SD.poolRd 2 rfl HU.out) hPl2).mono ?_
           rintro e wq ⟨vq, fq, rfl, oq, nq2, loq, bq⟩
           have SQ := (Star.nil wa.drew).made oq nq2 loq bq
           have y0 := (bq.cell (p := ⟨q, 0, none⟩) lq0).trans q0
           have y1 := (bq.cell (p := ⟨q, 1, none⟩) lq1).trans q1)
        | (with_reducible show (if _ then Oper.wp _ { dst := some 83, op := _, type := _, pos := _, after := _, guard := _ } _ _ _ _ else _)
           go_simp; go_at_call 22
           refine (ordered_any SQ hPl3).mono ?_
           rintro e w9 ⟨v9, f9, rfl, o9, nd9, lo9, b9⟩
           have z0 := (b9.cell (p := ⟨q, 0, none⟩) lq0).trans q0
           have z1 := (b9.cell (p := ⟨q, 1, none⟩) lq1).trans q1))
      all_goals
        go_wp2
        obtain rfl := HX2.out
        rw [compact_sorted] at o9
        have sq := S.below.size
        exact bodyPost_ret (v := .tuple #[.int .i64 (a : Int), v9, .int .i64 0]) (by simp [results, Try.results6, go_sem]) rfl ⟨_, f9, rfl, o9, nd9, (fun b hb => Nat.le_trans sq (lo9 b hb)), S.below.trans ((Below.refl _ _).drew.trans (b9.mono sq))⟩
    have t1 : (p : Int) ≤ (s : Int) := by omega
    have hp := HP.out
    rw [upTo_cons hle] at hp
    obtain ⟨TP, hTP⟩ : ∃ TP, TP = ordPrimeStep s T p := ⟨_, rfl⟩
    rw [List.foldl_cons, ← hTP] at hp
    have HP := Lib.hid hp
    clear hp
    go_wp2_with fail
    refine (isPrime_any p (by omega) _).mono ?_
    rintro e w3 ⟨rfl, b⟩
    replace S := S.step b
    clear b
    cases hpr : ordPrime p
    case false =>
      have hTT : TP = T := by rw [hTP]; unfold ordPrimeStep; rw [hpr]; rfl
      rw [hTT] at HP
      clear hTP hTT hpr
      go_wp2
      go_roundw
      case rel => exact ⟨p + 1, T, g, c, R, vs, by omega, by omega, rfl, by go_num, HP, HT, S⟩
      case measure => simp [intOf]; omega
    have HTP : Hid ((ordPowers p s 6 p).foldl (ordRow T s) T = TP) := Lib.hid (by rw [hTP]; unfold ordPrimeStep; rw [hpr]; rfl)
    clear hTP hpr
    have hRl : R.length = s + 1 := by rw [HT.out.2.len, HT.out.1.len]
    have hcl := clone_tab _ R _ w3 (Nat.le_refl _) (S.rd 0 rfl) (by omega) (by omega)
    have HRl := Lib.hid hRl
    have HCL := Lib.hid hcl
    clear hcl hRl
    go_wp2_with fail
    refine HCL.out.mono ?_
    rintro e w4 ⟨v4, f4, rfl, o4, nd4, lo4, b4⟩
    replace S := S.made o4 nd4 lo4 b4
    clear o4 nd4 lo4 b4 HCL
    obtain ⟨h, e4, he4⟩ := S.rawSlc 0 rfl (by rw [HRl.out]; omega)
    rw [HRl.out] at he4
    subst he4
    go_wp2
    go_loopw [8] (fun q wr => ∃ k fu : Nat, ∃ Tn Rn vs, 1 ≤ k ∧ k ≤ 3600 ∧ q = .int .i64 k ∧ Hid (64 ≤ k * 2 ^ fu) ∧ Hid ((ordPowers p s fu k).foldl (ordRow T s) Tn = TP) ∧ Hid (TabOk s Tn) ∧ Hid (TabRaw T R vs ∧ TabRaw Tn Rn vs) ∧ Star w wr [oE tabE [.slice (some ⟨h, 0, none⟩) (s + 1) e4] Rn, oE tabE [.slice (some ⟨g, 0, none⟩) (s + 1) c] R, oPool vs]) (fun q _ => 61 - (intOf q).toNat)
    case atStart => exact ⟨p, 6, T, R, vs, by omega, by omega, rfl, Lib.hid (by omega), HTP, Lib.hid HT.out.1, Lib.hid ⟨HT.out.2, HT.out.2⟩, S⟩
    case round =>
      clear S HTP
      obtain ⟨k, fu, Tn, Rn, vs', hk1, hk36, rfl, HF2, HN2, HTN, HR2, S⟩ := hrel
      by_cases hks : k ≤ s
      case neg =>
        have t4 : ¬ (k : Int) ≤ (s : Int) := by omega
        have hN := HN2.out
        rw [powers_nil (by omega)] at hN
        obtain rfl : Tn = TP := hN
        clear HN2 HF2
        go_wp2
        go_roundw
        case rel => exact ⟨p + 1, Tn, h, e4, Rn, vs', by omega, by omega, rfl, by go_num, HP, Lib.hid ⟨HTN.out, HR2.out.2⟩, S.sel [0, 2]⟩
        case measure => simp [intOf]; omega
      have t4 : (k : Int) ≤ (s : Int) := by omega
      obtain ⟨fu', hpc, hfu⟩ := powers_cons hp2 hs60 HF2.out hks
      have hN := HN2.out
      rw [hpc, List.foldl_cons] at hN
      obtain ⟨TK, hTK⟩ : ∃ TK, TK = ordRow T s Tn k := ⟨_, rfl⟩
      rw [← hTK] at hN
      have HTK : Hid ((upTo s k).foldl (fun t i => ordCell T t k i) Tn = TK) := Lib.hid hTK.symm
      have hkm : (k : Int) * (p : Int) = ((k * p : Nat) : Int) := by rw [Int.natCast_mul]
      obtain ⟨kp, hkp⟩ : ∃ q, q = k * p := ⟨_, rfl⟩
      have hkp1 : k + 1 ≤ kp := by
        have := Nat.mul_le_mul_left k hp2
        omega
      have hkp2 : kp ≤ 3600 := by
        have := Nat.mul_le_mul (Nat.le_trans hks hs60) (Nat.le_trans hle hs60)
        omega
      rw [← hkp] at hkm hN hfu
      have wkp : IntKind.i64.wrap (kp : Int) = (kp : Int) := IntWalk.i64_in _ ⟨by omega, by omega⟩
      have HN3 := Lib.hid hN
      have HFU := Lib.hid hfu
      clear hkp hN HN2 HF2 hpc hfu hTK
      go_wp2
      go_loopw [9] (fun q wr => ∃ j : Nat, ∃ Tj Rj vs, k ≤ j ∧ j ≤ s + 1 ∧ q = .int .i64 j ∧ Hid ((upTo s j).foldl (fun t i => ordCell T t k i) Tj = TK) ∧ Hid (TabOk s Tj) ∧ Hid (TabRaw T R vs ∧ TabRaw Tj Rj vs) ∧ Star w wr [oE tabE [.slice (some ⟨h, 0, none⟩) (s + 1) e4] Rj, oE tabE [.slice (some ⟨g, 0, none⟩) (s + 1) c] R, oPool vs]) (fun q _ => s + 1 - (intOf q).toNat)
      case atStart => exact ⟨k, Tn, Rn, vs', by omega, by omega, rfl, HTK, HTN, HR2, S⟩
      case round =>
        clear S HTK HTN HR2
        obtain ⟨j, Tj, Rj, vj, hkj, hjs, rfl, HTK, HTJ, HRJ, S⟩ := hrel
        by_cases hjle : j ≤ s
        case neg =>
          have t5 : ¬ (j : Int) ≤ (s : Int) := by omega
          have hN := HTK.out
          rw [upTo_nil (by omega)] at hN
          obtain rfl : Tj = TK := hN
          clear HTK
          go_wp2
          go_roundw
          case rel => exact ⟨kp, fu', Tj, Rj, vj, by omega, by omega, by go_num, HFU, HN3, HTJ, HRJ, S⟩
          case measure => simp [intOf]; omega
        have t5 : (j : Int) ≤ (s : Int) := by omega
        have hN := HTK.out
        rw [upTo_cons hjle, List.foldl_cons] at hN
        have HTK2 := Lib.hid hN
        clear hN HTK
        obtain ⟨d, hd⟩ : ∃ d, j = d + k := ⟨j - k, by omega⟩
        obtain ⟨u, hu1, hu2⟩ := HRJ.out.1.row d (by rw [HT.out.1.len]; omega)
        obtain ⟨u', hn1, -⟩ := HRJ.out.2.row j (by rw [HTJ.out.len]; omega)
        have rU := S.poolRd 2 rfl hu2
        obtain ⟨ua, un, uc, rfl⟩ := rd_slice rU
        obtain ⟨cA, cU⟩ := S.rawAt 1 rfl d _ hu1
        obtain ⟨cB, -⟩ := S.rawAt 0 rfl j _ hn1
        simp only at cA cU cB
        clear rU hu1 hn1
        obtain ⟨P, hP⟩ : ∃ P, P = (oAt T d).2 := ⟨_, rfl⟩
        obtain ⟨a, ha⟩ : ∃ a, a = (oAt T d).1 := ⟨_, rfl⟩
        obtain ⟨b2, hb2⟩ : ∃ a, a = (oAt Tj j).1 := ⟨_, rfl⟩
        obtain ⟨pr, hpr⟩ : ∃ q, q = a * k := ⟨_, rfl⟩
        have hpr2 : pr ≤ 2 ^ j := by rw [hpr]; exact val_mul (by rw [ha]; exact HT.out.1.val d (by omega)) hd.symm
        have hpr60 : pr ≤ 1152921504606846976 := Nat.le_trans hpr2 (two_60 (by omega))
        have hmulk : (a : Int) * (k : Int) = (pr : Int) := by rw [hpr, Int.natCast_mul]
        have wpr : IntKind.i64.wrap (pr : Int) = (pr : Int) := IntWalk.i64_in _ ⟨by omega, by omega⟩
        have hsub : (j : Int) - (k : Int) = (d : Int) := by omega
        have wsub : IntKind.i64.wrap (d : Int) = (d : Int) := IntWalk.i64_in _ ⟨by omega, by omega⟩
        have hpos : 1 ≤ pr := by rw [hpr]; exact Nat.mul_pos (by rw [ha]; exact HT.out.1.pos d (by omega)) hk1
        have hPl : P.length ≤ d := by rw [hP]; exact HT.out.1.parts d (by omega)
        have hPs : ∀ x, x ∈ P → x ≤ 60 := by rw [hP]; exact HT.out.1.small d (by omega)
        rw [← ha] at cA
        rw [← hb2] at cB
        rw [← hP] at hu2
        have hC : ordCell T Tj k j = if b2 < pr then Tj.set j (pr, P ++ [k]) else Tj := by
          unfold ordCell
          rw [show j - k = d from by omega, hpr, ha, hb2, hP]; rfl
        have HC := Lib.hid hC
        have HB2 := Lib.hid hb2
        have HU := Lib.hid hu2
        have HPR := Lib.hid (And.intro hpr2 (And.intro hpos hPs))
        have HD := Lib.hid hd
        have hds : d ≤ s := by omega
        clear hpr hpr2 ha hb2 hpos hd hP hPs hC hu2
        go_upto_region 16 with fail
        replace S := S.alloc (cs := #[.int .i64 (a : Int), .slice ua un uc]) (ty := 40)
        have q0 := (S.blk 0 rfl).cell 0 rfl
        have q1 := (S.blk 0 rfl).cell 1 rfl
        obtain ⟨u', hn1, -⟩ := HRJ.out.2.row j (by rw [HTJ.out.len]; omega)
        obtain ⟨cB2, -⟩ := S.rawAt 1 rfl j _ hn1
        generalize hW : wr.alloc _ = wa at S q0 q1 cB2 ⊢
        obtain ⟨q, hq⟩ : ∃ q, q = wr.heap.size := ⟨_, rfl⟩
        rw [← hq] at S q0 q1 ⊢
        clear hW hq cA cU cB
        simp only at cB2
        rw [← HB2.out] at cB2
        by_cases hgt : b2 < pr
        case neg =>
          have t6 : ¬ (b2 : Int) < (pr : Int) := by omega
          have hN := HTK2.out
          rw [HC.out, if_neg hgt] at hN
          have HTK3 := Lib.hid hN
          clear hN HC
          go_quiet (fail)
          rename_i nq
          go_wp2
          go_roundw
          case rel => exact ⟨j + 1, Tj, Rj, vj, by omega, by omega, by go_num, HTK3, HTJ, HRJ, (S.step (below_drewN (Below.refl _ _) nq)).sel [1, 2, 3]⟩
          case measure => simp [intOf]; omega
        have t6 : (b2 : Int) < (pr : Int) := by omega
        have hN := HTK2.out
        rw [HC.out, if_pos hgt] at hN
        have HTK3 := Lib.hid hN
        clear hN HC HTK2
        go_quiet (fail)
        rename_i nq
        go_upto_region 17 with fail
        replace S := S.step (below_drewN (Below.refl _ _) nq)
        generalize hW : wa.drewN nq = wd at S ⊢
        clear hW q0 q1 cB2
        have q0 := (S.blk 0 rfl).cell 0 rfl
        have q1 := (S.blk 0 rfl).cell 1 rfl
        have q0a := fun o => cell_al q0 o
        have q1a := fun o => cell_al q1 o
        have SD := S.drew
        have SE := (S.alloc (cs := #[.int .i64 (k : Int)]) (ty := 2)).drew
        have t7 : (j : Int) < (s : Int) + 1 := by omega
        have hPl2 : (oList P).length ≤ 1000000000000 := by rw [oList_len]; omega
        have bk : -9223372036854775808 ≤ (k : Int) ∧ (k : Int) ≤ 9223372036854775807 := ⟨by omega, by omega⟩
        go_region_law (first
          | (with_reducible show (if _ then Oper.wp _ { dst := some 67, op := _, type := _, pos := _, after := _, guard := _ } _ _ _ _ else _)
             go_simp; go_at_call 21
             with_reducible show Calls _ _ _ (World.drew (World.alloc _ _)) _
             refine (clone_ints _ (oList P) _ _ (Nat.le_refl _) (by exact SE.poolRd 4 rfl HU.out) hPl2).mono ?_
             rintro e wq ⟨vq, fq, rfl, oq, nq2, loq, bq⟩
             have SQ := SE.made oq nq2 loq bq
             have hcq : ∀ j u, [Value.int .i64 (k : Int)][j]? = some u → wq.cell? ⟨wd.heap.size, j, none⟩ = some u := fun j u hu => (SQ.blk 1 rfl).cell j hu
             have y0 := (SQ.blk 2 rfl).cell 0 rfl
             have y1 := (SQ.blk 2 rfl).cell 1 rfl
             have SA := (SQ.int (x := (k : Int)) bk).sel [1, 0, 3, 4, 5, 6])
          | (with_reducible show (if _ then Oper.wp _ { dst := some 67, op := _, type := _, pos := _, after := _, guard := _ } _ _ _ _ else _)
             go_simp; go_at_call 21
             refine (clone_ints _ (oList P) _ _ (Nat.le_refl _) (by exact SD.poolRd 3 rfl HU.out) hPl2).mono ?_
             rintro e wq ⟨vq, fq, rfl, oq, nq2, loq, bq⟩
             have SQ := SD.made oq nq2 loq bq
             have y0 := (SQ.blk 1 rfl).cell 0 rfl
             have y1 := (SQ.blk 1 rfl).cell 1 rfl
             have y0a := fun o => cell_al y0 o
             have y1a := fun o => cell_al y1 o
             have SA := ((SQ.alloc (cs := #[.int .i64 (k : Int)]) (ty := 2)).int (x := (k : Int)) bk).sel [2, 0, 3, 4, 5, 6])
          | (with_reducible show (if _ then Oper.wp _ { dst := some 70, op := _, type := _, pos := _, after := _, guard := _ } _ _ _ _ else _)
             refine sst1_Int64S SA rfl rfl rfl rfl (by first | exact cell_a1 | exact hcq) (one_mem rfl) hPl2 ?_
             intro ta tn tc w9 S9
             obtain ⟨x9, x9'⟩ := S9.rawAt 2 rfl j _ hn1
             have cf := (S9.rawFree 2 rfl).1
             have z0 := (S9.blk 1 rfl).cell 0 rfl
             have z1 := (S9.blk 1 rfl).cell 1 rfl))
        all_goals
          go_wp2
          go_roundw
          case rel =>
            have hjR : j < Rj.length := by rw [HRJ.out.2.len, HTJ.out.len]; omega
            have S10 := ((S9.sel [2, 0, 4, 3]).setRaw j hjR (.int .i64 (pr : Int)) (.slice ta tn tc) rfl rfl).sel [1, 2, 0, 3]
            have e1 : oList P ++ [(k : Int)] = oList (P ++ [k]) := by simp [oList]
            rw [e1] at S10
            have S11 := (Star.poolAdd S10).sel [1, 2, 0]
            refine ⟨j + 1, Tj.set j (pr, P ++ [k]), Rj.set j (.int .i64 (pr : Int), .slice ta tn tc), _, by omega, by omega, by go_num, HTK3, Lib.hid (HTJ.out.set hjle HPR.out.2.1 HPR.out.1 ?_ ?_), Lib.hid ⟨HRJ.out.1.more _, (HRJ.out.2.more _).set j (pr, P ++ [k]) _ (by simp)⟩, S11⟩
            · rw [List.length_append]
              have := HD.out
              simp; omega
            · intro x hx
              rcases List.mem_append.1 hx with h | h
              · exact HPR.out.2.2 x h
              · rw [List.mem_singleton.1 h]; omega
          case measure => simp [intOf]; omega

end Go.Proofs.Ytaedgicglddihaa
