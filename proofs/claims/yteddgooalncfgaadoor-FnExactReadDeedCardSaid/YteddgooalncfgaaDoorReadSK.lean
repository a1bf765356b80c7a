/-
  ReadDeed of the reference (written by a program of this claim's own, gen_read.py).
-/
import Derived.Test.YteddgooalncfgaaDoorReadNK
import Derived.Test.YteddgooalncfgaaDoorDeedTK
import Derived.Test.YteddgooalncfgaaDoorStarK
namespace Go.Proofs.YteddgooalncfgaaDoor
open Go.RowKit

theorem set3_cells {w : World} {g : Nat} {u0 u1 u2 : Value} {ty : TypeId} (A : Blk w g [u0, u1, u2] ty) {v0 v1 v2 : Value} :
    (((w.setCell ⟨g, 0, none⟩ v0).setCell ⟨g, 1, none⟩ v1).setCell ⟨g, 2, none⟩ v2).cell? ⟨g, 0, none⟩ = some v0 ∧
    (((w.setCell ⟨g, 0, none⟩ v0).setCell ⟨g, 1, none⟩ v1).setCell ⟨g, 2, none⟩ v2).cell? ⟨g, 1, none⟩ = some v1 ∧
    (((w.setCell ⟨g, 0, none⟩ v0).setCell ⟨g, 1, none⟩ v1).setCell ⟨g, 2, none⟩ v2).cell? ⟨g, 2, none⟩ = some v2 := by
  have A1 := ((A.set 0 v0).set 1 v1).set 2 v2
  exact ⟨A1.cell 0 rfl, A1.cell 1 rfl, A1.cell 2 rfl⟩

theorem bytes_ne {x y : ByteArray} (h : ¬ x = y) : (x.toList == y.toList) = false := by
  rw [beq_eq_false_iff_ne]
  intro e
  apply h
  rw [ByteArray.toList_eq, ByteArray.toList_eq] at e
  obtain ⟨a⟩ := x
  obtain ⟨b⟩ := y
  have : a = b := Array.toList_inj.1 e
  rw [this]

/-- A deed's cells. -/
def deedV (d : Deed) : Value := .agg #[.int .i64 d.kind, .int .i64 d.a, .int .i64 d.b]

theorem strs_cells {w : World} {B : Nat} {l : List ByteArray} {sa : Option Addr} {sn sc : Nat} (h : strsE.rd w B [.slice sa sn sc] l) (h0 : 0 < l.length) : sn = l.length ∧ ∃ b o, sa = some ⟨b, o, none⟩ ∧ b < B ∧ ∀ k, k < l.length → w.cell? ⟨b, o + k, none⟩ = some (.string (l.getD k ByteArray.empty)) ∧ (l.getD k ByteArray.empty).size ≤ 9223372036854775807 := by
  obtain ⟨a, cap, e, h1, h2, h3, h4⟩ := rd_strs h
  cases e
  obtain ⟨b, o, rfl, hb, -, -⟩ := h4 0 h0
  refine ⟨rfl, b, o, rfl, hb, fun k hk => ?_⟩
  obtain ⟨b2, o2, e2, -, hc, hs⟩ := h4 k hk
  cases e2
  rw [List.getD_eq_getElem?_getD]
  exact ⟨hc, hs⟩

theorem wordsS_len (t : ByteArray) : 2 ≤ (wordsS t).length := by
  unfold wordsS cutB
  simp

set_option maxHeartbeats 8000000 in
set_option maxRecDepth 100000 in
theorem specReadDeed_any (t : ByteArray) (w : World) (hs : t.size ≤ 1048576) : Calls Tryd.prog 8 #[.string t] w (Gives (.tuple #[deedV (readDeed t).1, .int .i64 (readDeed t).2]) w) := by
  by_cases h40 : 40 < t.size
  · have HRD := Lib.hid (read_long t h40)
    have t40 : (40 : Int) < (t.size : Int) := by omega
    clear h40 hs
    go_enter Tryd.func8, Tryd.ntmps8
    have A0 : Blk (w.alloc (.cells #[.int .i64 0, .int .i64 0, .int .i64 0] 25)) w.heap.size [.int .i64 0, .int .i64 0, .int .i64 0] 25 := Blk.new w _ _
    have BRET : Below w.heap.size w (w.alloc (.cells #[.int .i64 0, .int .i64 0, .int .i64 0] 25)) := (Below.refl _ _).alloc (Nat.le_refl _) _
    go_upto_region 2 with fail
    generalize hW : w.alloc _ = w0 at A0 BRET ⊢
    clear hW
    have c0r := A0.cell 0 rfl
    have c1r := A0.cell 1 rfl
    have c2r := A0.cell 2 rfl
    have fr := A0.free
    go_wp2
    obtain ⟨q0, q1, q2⟩ := set3_cells A0 (v0 := .int .i64 0) (v1 := .int .i64 0) (v2 := .int .i64 0)
    exact bodyPost_ret (v := .tuple #[.agg #[.int .i64 0, .int .i64 0, .int .i64 0], .int .i64 5]) (by simp [results, Tryd.results8, go_sem, q0, q1, q2]) rfl ⟨by rw [HRD.out]; rfl, ((BRET.setCell (Nat.le_refl _) _).setCell (Nat.le_refl _) _).setCell (Nat.le_refl _) _⟩

  have t40 : ¬ (40 : Int) < (t.size : Int) := by omega
  clear h40
  go_enter Tryd.func8, Tryd.ntmps8
  have S := (Star.nil w).alloc (cs := #[.int .i64 0, .int .i64 0, .int .i64 0]) (ty := 25)
  go_wp2_with fail
  generalize hW : w.alloc _ = w0 at S ⊢
  clear hW
  refine (l08Cut_any t w0 hs).mono ?_
  rintro e w1 ⟨v, fp, rfl, ow, nd, lo, b⟩
  have S1 := S.made ow nd lo b
  clear S ow nd lo b
  obtain ⟨sa, sn, sc, rfl⟩ := S1.slc 0 rfl
  have hlen : (cutB t).length ≤ 1000000000000 := by unfold cutB; have := cutAt_length t t.size; simp; omega
  have SA := ((S1.alloc (cs := #[.string ⟨#[]⟩]) (ty := 9)).str (x := ⟨#[]⟩) (by decide)).sel [2, 0, 3]
  clear S1
  go_wp2_with (first
    | (refine (l08Words_any _).mono ?_
       rintro e w4 ⟨q, rfl, hq, lo, b⟩)
    | (at_builtin; refine st1_StringS SA rfl rfl rfl rfl cell_a1 (one_mem rfl) hlen ?_; intro ja jn jc w3 S3))
  have S4 : Star w w4 [oB q (deedWs.map Value.string) 9, oE strsE [.slice ja jn jc] (wordsS t), oB w.heap.size [.int .i64 0, .int .i64 0, .int .i64 0] 25] := S3.blocked hq lo b
  clear S3 hq lo b SA hlen
  have hwl := wordsS_len t
  obtain ⟨hjn, jb, jo, rfl, hjb, hjc⟩ := strs_cells (S4.rd 1 rfl) (by omega)
  have Q4 := S4.blk 0 rfl
  have A4 := S4.blk 2 rfl
  have B4 := S4.below
  clear S4
  obtain ⟨x0, hx0⟩ : ∃ x, x = (wordsS t).getD 0 ByteArray.empty := ⟨_, rfl⟩
  obtain ⟨x1, hx1⟩ : ∃ x, x = (wordsS t).getD 1 ByteArray.empty := ⟨_, rfl⟩
  obtain ⟨x2, hx2⟩ : ∃ x, x = (wordsS t).getD 2 ByteArray.empty := ⟨_, rfl⟩
  have j0 := hjc 0 (by omega)
  have j1 := hjc 1 (by omega)
  have j2 := fun h => hjc 2 h
  rw [← hx0] at j0
  rw [← hx1] at j1
  rw [← hx2] at j2
  obtain ⟨j1, z1⟩ := j1
  rw [← hjn] at j2
  have hdk : ∀ k : Nat, deedAt t k = ⟨k, num3 x1, if hasTwo (k : Int) && decide (2 < jn) then num3 x2 else 0⟩ := by
    intro k; unfold deedAt; rw [← hx1, ← hx2, ← hjn]
  have HDK := Lib.hid hdk
  have HX0 := Lib.hid hx0
  have HQ4 := Lib.hid Q4; have lq := Q4.lt
  have HA4 := Lib.hid A4; have la := A4.lt
  have J0 := Lib.hid j0.1; have J1 := Lib.hid j1; have J2 := Lib.hid j2
  rw [← hjn] at hwl
  clear hjc hx1 hx2 hx0 hdk Q4 A4 j0 j1 j2 hjn
  obtain ⟨n1, hn1⟩ : ∃ n, n = num3 x1 := ⟨_, rfl⟩
  obtain ⟨n2, hn2⟩ : ∃ n, n = num3 x2 := ⟨_, rfl⟩
  rw [← hn1, ← hn2] at HDK
  have hN1 := fun w' => Lib.hid (l08Number_any x1 w' z1)
  have hN2 := fun (h : 2 < jn) w' => Lib.hid (l08Number_any x2 w' (J2.out h).2)
  rw [← hn1] at hN1
  rw [← hn2] at hN2
  clear hn1 hn2 z1
  go_wp2
  go_loopw [6] (fun kv wr => ∃ k : Nat, 1 ≤ k ∧ k ≤ 9 ∧ kv = .int .i64 k ∧ Hid (∀ j : Nat, 1 ≤ j → j < k → x0 = deedWord j → ¬ deedText (deedAt t j) = t) ∧ Below w4.heap.size w4 wr) (fun kv _ => 9 - (intOf kv).toNat)
  case atStart => exact ⟨1, by omega, by omega, rfl, Lib.hid (fun j h1 h2 => by omega), Below.refl _ _⟩
  case round =>
    obtain ⟨k, hk1, hk9, rfl, HM, B⟩ := hrel
    have Ar := HA4.out.of B la
    by_cases hk8 : k ≤ 8
    case neg =>
      obtain rfl : k = 9 := by omega
      have hrd := read_miss t (fun j h1 h8 h0 => HM.out j h1 (by omega) (HX0.out.trans h0))
      have HRD := Lib.hid hrd
      have BRET : Below w.heap.size w wr := B4.trans (B.mono B4.size)
      clear hrd
      have c0r := Ar.cell 0 rfl
      have c1r := Ar.cell 1 rfl
      have c2r := Ar.cell 2 rfl
      have fr := Ar.free
      go_wp2
      obtain ⟨q0, q1, q2⟩ := set3_cells Ar (v0 := .int .i64 0) (v1 := .int .i64 0) (v2 := .int .i64 0)
      exact bodyPost_ret (v := .tuple #[.agg #[.int .i64 0, .int .i64 0, .int .i64 0], .int .i64 5]) (by simp [results, Tryd.results8, go_sem, q0, q1, q2]) rfl ⟨by rw [HRD.out]; rfl, ((BRET.setCell (Nat.le_refl _) _).setCell (Nat.le_refl _) _).setCell (Nat.le_refl _) _⟩

    have tk : (k : Int) ≤ 8 := by omega
    have k0 : (0 : Int) ≤ (k : Int) := by omega
    have k9 : (k : Int) < 9 := by omega
    have l1 : (1 : Int) < (jn : Int) := by omega
    have l0 : (0 : Int) < (jn : Int) := by omega
    have l0n : 0 < jn := by omega
    have l1n : 1 < jn := by omega
    have wk : IntKind.i64.wrap ((k : Int) + 1) = (k : Int) + 1 := IntWalk.i64_in _ ⟨by omega, by omega⟩
    have c1 : wr.cell? ⟨jb, jo + 1, none⟩ = some (.string x1) := (B.cell hjb).trans J1.out
    go_wp2_with fail
    refine (hN1 wr).out.mono ?_
    rintro e w5 ⟨rfl, rfl⟩
    go_wp2_with fail
    generalize hW : wr.alloc _ = wd
    obtain ⟨D0, bD⟩ := blk1 hW
    clear hW c1
    have BD : Below w4.heap.size w4 wd := B.trans (bD.mono B.size)
    cases htw : hasTwo (k : Int) && decide (2 < jn)
    case false =>
      have HTW := Lib.hid htw
      clear htw
      cases h2 : hasTwo (k : Int)
      case false =>
        have H2 := Lib.hid h2; clear h2
        refine (l08Two_is false _ _ H2.out).mono ?_
        rintro e w6 ⟨rfl, rfl⟩
        go_upto_region 11 with fail
        have D1 := D0
        have BE := BD
        clear D0 BD bD
        have hdk : deedAt t k = ⟨k, n1, 0⟩ := by rw [HDK.out k, HTW.out]; rfl
        have HD2 := Lib.hid hdk
        clear hdk
        obtain ⟨wo, hwo⟩ : ∃ x, x = deedWord k := ⟨_, rfl⟩
        have HAT := Lib.hid (show (deedWs.map Value.string)[k]? = some (.string wo) by rw [hwo]; exact deedWs_at k (by omega))
        have c0 : wd.cell? ⟨jb, jo, none⟩ = some (.string x0) := (BE.cell hjb).trans J0.out
        have cq : wd.cell? ⟨q, k, none⟩ = some (.string wo) := (HQ4.out.of BE lq).cell k HAT.out
        have e0 := D1.cell 0 rfl
        have e1 := D1.cell 1 rfl
        have e2 := D1.cell 2 rfl
        have g1 : jb < wd.heap.size := Nat.lt_of_lt_of_le hjb BE.size
        have g2 : q < wd.heap.size := Nat.lt_of_lt_of_le lq BE.size
        have g3 := D1.lt
        have hov := cell_over wd
        by_cases hx : x0 = wo
        case neg =>
          have tne : (x0.toList == wo.toList) = false := bytes_ne hx
          have HMN := Lib.hid (show ∀ j : Nat, 1 ≤ j → j < k + 1 → x0 = deedWord j → ¬ deedText (deedAt t j) = t from fun j h1 h2 h3 => by
            by_cases hj : j = k
            · subst hj; exact absurd (h3.trans hwo.symm) hx
            · exact HM.out j h1 (by omega) h3)
          clear hx hwo
          refine wp_region_over (by kernel_rfl) (by kernel_rfl) ?_
          repeat (go_big_quiet_step (fail))
          refine wpQuiet_nil ?_
          intro wf bf
          go_wp2
          go_roundw
          case rel => exact ⟨k + 1, by omega, by omega, by go_num, HMN, BE.trans (bf.mono BE.size)⟩
          case measure => simp [intOf]; omega
        case pos =>
          subst hx
          obtain ⟨tx, htx⟩ : ∃ x, x = deedText ⟨k, n1, 0⟩ := ⟨_, rfl⟩
          have hdt := fun w' => Lib.hid (specDeedText_any ⟨k, n1, 0⟩ w')
          rw [← htx] at hdt
          have HTX := Lib.hid htx
          clear htx
          by_cases hy : tx = t
          case pos =>
            subst hy
            have hrd := read_hit tx k hk1 hk8 (HX0.out.symm.trans hwo) (by rw [HD2.out, ← HTX.out])
            rw [HD2.out] at hrd
            have HRD := Lib.hid hrd
            clear hrd hwo
            refine wp_region_over (by kernel_rfl) (by kernel_rfl) ?_
            repeat (go_big_quiet_step ((go_at_call 5; exact calls_over (hdt _).out)))
            refine wpQuiet_nil ?_
            intro wf bf
            have DF := D1.of bf D1.lt
            have BF := BE.trans (bf.mono BE.size)
            have f0 := DF.cell 0 rfl
            have f1 := DF.cell 1 rfl
            have f2 := DF.cell 2 rfl
            have Ar2 := HA4.out.of BF la
            have c0r := Ar2.cell 0 rfl
            have c1r := Ar2.cell 1 rfl
            have c2r := Ar2.cell 2 rfl
            have fr := Ar2.free
            have BRET : Below w.heap.size w wf := B4.trans (BF.mono B4.size)
            go_wp2
            obtain ⟨q0, q1, q2⟩ := set3_cells Ar2 (v0 := .int .i64 (k : Int)) (v1 := .int .i64 n1) (v2 := .int .i64 0)
            exact bodyPost_ret (v := .tuple #[.agg #[.int .i64 k, .int .i64 n1, .int .i64 0], .int .i64 0]) (by simp [results, Tryd.results8, go_sem, q0, q1, q2]) rfl ⟨by rw [HRD.out]; rfl, ((BRET.setCell (Nat.le_refl _) _).setCell (Nat.le_refl _) _).setCell (Nat.le_refl _) _⟩
          case neg =>
            have tne : (tx.toList == t.toList) = false := bytes_ne hy
            have HMN := Lib.hid (show ∀ j : Nat, 1 ≤ j → j < k + 1 → x0 = deedWord j → ¬ deedText (deedAt t j) = t from fun j h1 h2 h3 => by
              by_cases hj : j = k
              · subst hj; rw [HD2.out, ← HTX.out]; exact hy
              · exact HM.out j h1 (by omega) h3)
            clear hy hwo
            refine wp_region_over (by kernel_rfl) (by kernel_rfl) ?_
            repeat (go_big_quiet_step ((go_at_call 5; exact calls_over (hdt _).out)))
            refine wpQuiet_nil ?_
            intro wf bf
            go_wp2
            go_roundw
            case rel => exact ⟨k + 1, by omega, by omega, by go_num, HMN, BE.trans (bf.mono BE.size)⟩
            case measure => simp [intOf]; omega

      case true =>
        have H2 := Lib.hid h2; clear h2
        have hj2 : ¬ 2 < jn := by
          intro h
          have := HTW.out
          rw [H2.out, decide_eq_true h] at this
          cases this
        have t2 : ¬ (2 : Int) < (jn : Int) := by omega
        refine (l08Two_is true _ _ H2.out).mono ?_
        rintro e w6 ⟨rfl, rfl⟩
        go_upto_region 11 with fail
        have D1 := D0
        have BE := BD
        clear D0 BD bD
        have hdk : deedAt t k = ⟨k, n1, 0⟩ := by rw [HDK.out k, HTW.out]; rfl
        have HD2 := Lib.hid hdk
        clear hdk
        obtain ⟨wo, hwo⟩ : ∃ x, x = deedWord k := ⟨_, rfl⟩
        have HAT := Lib.hid (show (deedWs.map Value.string)[k]? = some (.string wo) by rw [hwo]; exact deedWs_at k (by omega))
        have c0 : wd.cell? ⟨jb, jo, none⟩ = some (.string x0) := (BE.cell hjb).trans J0.out
        have cq : wd.cell? ⟨q, k, none⟩ = some (.string wo) := (HQ4.out.of BE lq).cell k HAT.out
        have e0 := D1.cell 0 rfl
        have e1 := D1.cell 1 rfl
        have e2 := D1.cell 2 rfl
        have g1 : jb < wd.heap.size := Nat.lt_of_lt_of_le hjb BE.size
        have g2 : q < wd.heap.size := Nat.lt_of_lt_of_le lq BE.size
        have g3 := D1.lt
        have hov := cell_over wd
        by_cases hx : x0 = wo
        case neg =>
          have tne : (x0.toList == wo.toList) = false := bytes_ne hx
          have HMN := Lib.hid (show ∀ j : Nat, 1 ≤ j → j < k + 1 → x0 = deedWord j → ¬ deedText (deedAt t j) = t from fun j h1 h2 h3 => by
            by_cases hj : j = k
            · subst hj; exact absurd (h3.trans hwo.symm) hx
            · exact HM.out j h1 (by omega) h3)
          clear hx hwo
          refine wp_region_over (by kernel_rfl) (by kernel_rfl) ?_
          repeat (go_big_quiet_step (fail))
          refine wpQuiet_nil ?_
          intro wf bf
          go_wp2
          go_roundw
          case rel => exact ⟨k + 1, by omega, by omega, by go_num, HMN, BE.trans (bf.mono BE.size)⟩
          case measure => simp [intOf]; omega
        case pos =>
          subst hx
          obtain ⟨tx, htx⟩ : ∃ x, x = deedText ⟨k, n1, 0⟩ := ⟨_, rfl⟩
          have hdt := fun w' => Lib.hid (specDeedText_any ⟨k, n1, 0⟩ w')
          rw [← htx] at hdt
          have HTX := Lib.hid htx
          clear htx
          by_cases hy : tx = t
          case pos =>
            subst hy
            have hrd := read_hit tx k hk1 hk8 (HX0.out.symm.trans hwo) (by rw [HD2.out, ← HTX.out])
            rw [HD2.out] at hrd
            have HRD := Lib.hid hrd
            clear hrd hwo
            refine wp_region_over (by kernel_rfl) (by kernel_rfl) ?_
            repeat (go_big_quiet_step ((go_at_call 5; exact calls_over (hdt _).out)))
            refine wpQuiet_nil ?_
            intro wf bf
            have DF := D1.of bf D1.lt
            have BF := BE.trans (bf.mono BE.size)
            have f0 := DF.cell 0 rfl
            have f1 := DF.cell 1 rfl
            have f2 := DF.cell 2 rfl
            have Ar2 := HA4.out.of BF la
            have c0r := Ar2.cell 0 rfl
            have c1r := Ar2.cell 1 rfl
            have c2r := Ar2.cell 2 rfl
            have fr := Ar2.free
            have BRET : Below w.heap.size w wf := B4.trans (BF.mono B4.size)
            go_wp2
            obtain ⟨q0, q1, q2⟩ := set3_cells Ar2 (v0 := .int .i64 (k : Int)) (v1 := .int .i64 n1) (v2 := .int .i64 0)
            exact bodyPost_ret (v := .tuple #[.agg #[.int .i64 k, .int .i64 n1, .int .i64 0], .int .i64 0]) (by simp [results, Tryd.results8, go_sem, q0, q1, q2]) rfl ⟨by rw [HRD.out]; rfl, ((BRET.setCell (Nat.le_refl _) _).setCell (Nat.le_refl _) _).setCell (Nat.le_refl _) _⟩
          case neg =>
            have tne : (tx.toList == t.toList) = false := bytes_ne hy
            have HMN := Lib.hid (show ∀ j : Nat, 1 ≤ j → j < k + 1 → x0 = deedWord j → ¬ deedText (deedAt t j) = t from fun j h1 h2 h3 => by
              by_cases hj : j = k
              · subst hj; rw [HD2.out, ← HTX.out]; exact hy
              · exact HM.out j h1 (by omega) h3)
            clear hy hwo
            refine wp_region_over (by kernel_rfl) (by kernel_rfl) ?_
            repeat (go_big_quiet_step ((go_at_call 5; exact calls_over (hdt _).out)))
            refine wpQuiet_nil ?_
            intro wf bf
            go_wp2
            go_roundw
            case rel => exact ⟨k + 1, by omega, by omega, by go_num, HMN, BE.trans (bf.mono BE.size)⟩
            case measure => simp [intOf]; omega

    case true =>
      have HTW := Lib.hid htw
      rw [Bool.and_eq_true, decide_eq_true_eq] at htw
      have H2 := Lib.hid htw.1
      have hj2 := htw.2
      clear htw
      have t2 : (2 : Int) < (jn : Int) := by omega
      have c2 : wd.cell? ⟨jb, jo + 2, none⟩ = some (.string x2) := (BD.cell hjb).trans (J2.out hj2).1
      refine (l08Two_is true _ _ H2.out).mono ?_
      rintro e w6 ⟨rfl, rfl⟩
      go_wp2_with fail
      refine (hN2 hj2 _).out.mono ?_
      rintro e w7 ⟨rfl, rfl⟩
      have d2 := D0.cell 2 rfl
      have df := D0.free
      go_upto_region 11 with fail
      generalize hW : World.setCell _ _ _ = we
      have D1 : Blk we wr.heap.size [.int .i64 k, .int .i64 n1, .int .i64 n2] 25 := by rw [← hW]; exact D0.set 2 (.int .i64 n2)
      have BE : Below w4.heap.size w4 we := by rw [← hW]; exact BD.setCell B.size _
      clear hW c2 d2 df D0 BD bD
      have hdk : deedAt t k = ⟨k, n1, n2⟩ := by rw [HDK.out k, HTW.out]; rfl
      have HD2 := Lib.hid hdk
      clear hdk
      obtain ⟨wo, hwo⟩ : ∃ x, x = deedWord k := ⟨_, rfl⟩
      have HAT := Lib.hid (show (deedWs.map Value.string)[k]? = some (.string wo) by rw [hwo]; exact deedWs_at k (by omega))
      have c0 : we.cell? ⟨jb, jo, none⟩ = some (.string x0) := (BE.cell hjb).trans J0.out
      have cq : we.cell? ⟨q, k, none⟩ = some (.string wo) := (HQ4.out.of BE lq).cell k HAT.out
      have e0 := D1.cell 0 rfl
      have e1 := D1.cell 1 rfl
      have e2 := D1.cell 2 rfl
      have g1 : jb < we.heap.size := Nat.lt_of_lt_of_le hjb BE.size
      have g2 : q < we.heap.size := Nat.lt_of_lt_of_le lq BE.size
      have g3 := D1.lt
      have hov := cell_over we
      by_cases hx : x0 = wo
      case neg =>
        have tne : (x0.toList == wo.toList) = false := bytes_ne hx
        have HMN := Lib.hid (show ∀ j : Nat, 1 ≤ j → j < k + 1 → x0 = deedWord j → ¬ deedText (deedAt t j) = t from fun j h1 h2 h3 => by
          by_cases hj : j = k
          · subst hj; exact absurd (h3.trans hwo.symm) hx
          · exact HM.out j h1 (by omega) h3)
        clear hx hwo
        refine wp_region_over (by kernel_rfl) (by kernel_rfl) ?_
        repeat (go_big_quiet_step (fail))
        refine wpQuiet_nil ?_
        intro wf bf
        go_wp2
        go_roundw
        case rel => exact ⟨k + 1, by omega, by omega, by go_num, HMN, BE.trans (bf.mono BE.size)⟩
        case measure => simp [intOf]; omega
      case pos =>
        subst hx
        obtain ⟨tx, htx⟩ : ∃ x, x = deedText ⟨k, n1, n2⟩ := ⟨_, rfl⟩
        have hdt := fun w' => Lib.hid (specDeedText_any ⟨k, n1, n2⟩ w')
        rw [← htx] at hdt
        have HTX := Lib.hid htx
        clear htx
        by_cases hy : tx = t
        case pos =>
          subst hy
          have hrd := read_hit tx k hk1 hk8 (HX0.out.symm.trans hwo) (by rw [HD2.out, ← HTX.out])
          rw [HD2.out] at hrd
          have HRD := Lib.hid hrd
          clear hrd hwo
          refine wp_region_over (by kernel_rfl) (by kernel_rfl) ?_
          repeat (go_big_quiet_step ((go_at_call 5; exact calls_over (hdt _).out)))
          refine wpQuiet_nil ?_
          intro wf bf
          have DF := D1.of bf D1.lt
          have BF := BE.trans (bf.mono BE.size)
          have f0 := DF.cell 0 rfl
          have f1 := DF.cell 1 rfl
          have f2 := DF.cell 2 rfl
          have Ar2 := HA4.out.of BF la
          have c0r := Ar2.cell 0 rfl
          have c1r := Ar2.cell 1 rfl
          have c2r := Ar2.cell 2 rfl
          have fr := Ar2.free
          have BRET : Below w.heap.size w wf := B4.trans (BF.mono B4.size)
          go_wp2
          obtain ⟨q0, q1, q2⟩ := set3_cells Ar2 (v0 := .int .i64 (k : Int)) (v1 := .int .i64 n1) (v2 := .int .i64 n2)
          exact bodyPost_ret (v := .tuple #[.agg #[.int .i64 k, .int .i64 n1, .int .i64 n2], .int .i64 0]) (by simp [results, Tryd.results8, go_sem, q0, q1, q2]) rfl ⟨by rw [HRD.out]; rfl, ((BRET.setCell (Nat.le_refl _) _).setCell (Nat.le_refl _) _).setCell (Nat.le_refl _) _⟩
        case neg =>
          have tne : (tx.toList == t.toList) = false := bytes_ne hy
          have HMN := Lib.hid (show ∀ j : Nat, 1 ≤ j → j < k + 1 → x0 = deedWord j → ¬ deedText (deedAt t j) = t from fun j h1 h2 h3 => by
            by_cases hj : j = k
            · subst hj; rw [HD2.out, ← HTX.out]; exact hy
            · exact HM.out j h1 (by omega) h3)
          clear hy hwo
          refine wp_region_over (by kernel_rfl) (by kernel_rfl) ?_
          repeat (go_big_quiet_step ((go_at_call 5; exact calls_over (hdt _).out)))
          refine wpQuiet_nil ?_
          intro wf bf
          go_wp2
          go_roundw
          case rel => exact ⟨k + 1, by omega, by omega, by go_num, HMN, BE.trans (bf.mono BE.size)⟩
          case measure => simp [intOf]; omega

end Go.Proofs.YteddgooalncfgaaDoor
