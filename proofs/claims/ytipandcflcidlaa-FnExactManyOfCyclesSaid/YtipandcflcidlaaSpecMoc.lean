/-
  ManyOfCycles of the reference (written by a program of this claim's own, gen_moc.py).
-/
import Derived.Test.YtipandcflcidlaaMocDef
namespace Go.Proofs.Ytipandcflcidlaa
open Go.RowKit

theorem all_take_false {l : List (List Bool)} {p : List Bool → Bool} {i : Nat} (h : (l.take i).all p = false) : l.all p = false := by
  cases hl : l.all p
  · rfl
  · rw [List.all_eq_true] at hl
    have : (l.take i).all p = true := by rw [List.all_eq_true]; exact fun x hx => hl x (List.mem_of_mem_take hx)
    rw [this] at h; cases h

set_option maxHeartbeats 8000000 in
set_option maxRecDepth 100000 in
theorem specManyOfCycles_is (x : Many × Int) (v : Value) (l : List (List Bool)) (B : Nat) (w : World) (hB0 : B ≤ w.heap.size) (h : boolssE.rd w B [v] l) (hx : manyOfCycles l = x) :
    Calls Try.prog 20 #[v] w (MakesC manyE x w) := by
  have HX := Lib.hid hx
  have RA := Lib.hid h
  obtain ⟨pa, pc, rfl, p1, p2, -, e2⟩ := rd_slice1 rfl h
  obtain ⟨n, hn⟩ : ∃ n, n = l.length := ⟨_, rfl⟩
  rw [← hn] at p1 e2 RA ⊢
  have HN := Lib.hid hn
  have E2 := Lib.hid e2
  clear hx h hn e2
  have S := (Star.nil w).alloc (cs := #[.int .i64 0, .slice none 0 0, .slice none 0 0, .slice none 0 0]) (ty := 37)
  go_enter Try.func20, Try.ntmps20
  go_wp2_with fail
  generalize hW : w.alloc _ = w0 at S ⊢
  clear hW
  replace S : Star w w0 [oB w.heap.size [.int .i64 0, .slice none 0 0, .slice none 0 0, .slice none 0 0] 37] := S
  refine (l00In_k _ _ _ _).mono ?_
  rintro e w1 ⟨rfl, rfl⟩
  go_wp2
  go_loopw [4, 5, 6] (fun b4 s5 s6 wr => ∃ i : Nat, ∃ z : Int, ∃ b : Bool, i ≤ n ∧ b4 = .bool b ∧ s5 = .int .i64 z ∧ s6 = .int .i64 i ∧ Hid (b = (within n 1 4 && (l.take i).all cycIn)) ∧ Hid (b = true → z = (sumLen (l.take i) : Int)) ∧ Star w wr [oB w.heap.size [.int .i64 0, .slice none 0 0, .slice none 0 0, .slice none 0 0] 37]) (fun _ _ s6 _ => n - (intOf s6).toNat)
  case atStart => exact ⟨0, 0, _, by omega, rfl, rfl, rfl, Lib.hid (by simp), Lib.hid (fun _ => by simp [sumLen]), S⟩
  case round =>
    clear S
    obtain ⟨i, z, b, hi, rfl, rfl, rfl, HB, HZ, S⟩ := hrel
    cases hb : b
    case false =>
      subst hb
      have hx2 : (within n 1 4 && l.all cycIn) = false := by
        have := HB.out
        cases h1 : within n 1 4
        · rfl
        · rw [h1, Bool.true_and] at this
          rw [Bool.true_and]
          exact all_take_false this.symm
      have HX2 := Lib.hid hx2; clear hx2
      by_cases hin : i < n
      case pos =>
        have R0 := S.blk 0 rfl
        have c0 := R0.cell 0 rfl
        have c1 := R0.cell 1 rfl
        have c2 := R0.cell 2 rfl
        have c3 := R0.cell 3 rfl
        have f0 := R0.free
        go_wp2
        generalize hW : (((wr.setCell _ _).setCell _ _).setCell _ _).setCell _ _ = w9
        replace S := S.set4 rfl hW
        have A3 := S.blk 0 rfl
        have q0 := A3.cell 0 rfl
        have q1 := A3.cell 1 rfl
        have q2 := A3.cell 2 rfl
        have q3 := A3.cell 3 rfl
        obtain rfl : x = (default, 2) := by rw [← HX.out]; unfold manyOfCycles; rw [← HN.out, HX2.out]; rfl
        exact bodyPost_ret (v := .tuple #[.agg #[.int .i64 0, .slice none 0 0, .slice none 0 0, .slice none 0 0], .int .i64 2]) (by simp [results, Try.results20, go_sem, q0, q1, q2, q3]) rfl (S.flat (ow_Many_zero _)).done
      have R0 := S.blk 0 rfl
      have c0 := R0.cell 0 rfl
      have c1 := R0.cell 1 rfl
      have c2 := R0.cell 2 rfl
      have c3 := R0.cell 3 rfl
      have f0 := R0.free
      go_wp2
      generalize hW : (((wr.setCell _ _).setCell _ _).setCell _ _).setCell _ _ = w9
      replace S := S.set4 rfl hW
      have A3 := S.blk 0 rfl
      have q0 := A3.cell 0 rfl
      have q1 := A3.cell 1 rfl
      have q2 := A3.cell 2 rfl
      have q3 := A3.cell 3 rfl
      obtain rfl : x = (default, 2) := by rw [← HX.out]; unfold manyOfCycles; rw [← HN.out, HX2.out]; rfl
      exact bodyPost_ret (v := .tuple #[.agg #[.int .i64 0, .slice none 0 0, .slice none 0 0, .slice none 0 0], .int .i64 2]) (by simp [results, Try.results20, go_sem, q0, q1, q2, q3]) rfl (S.flat (ow_Many_zero _)).done
    subst hb
    by_cases hlt : i < n
    case pos =>
      obtain ⟨bb, oo, vk, rfl, -, hc, hr⟩ := E2.out i hlt
      have hlk : i < l.length := by rw [← HN.out]; exact hlt
      have hget : l[i]?.getD default = l[i] := by simp [List.getElem?_eq_getElem hlk]
      rw [hget] at hr
      have hall := HB.out
      have htk := List.take_succ_eq_append_getElem hlk
      have hsl := sumLen_take l i l[i] (List.getElem?_eq_getElem hlk)
      have hsum : sumLen (l.take i) ≤ 48 := by
        have h := hall.symm
        rw [Bool.and_eq_true, List.all_eq_true] at h
        have h4 := within_true.1 h.1
        have h1 := sumLen_bound (l.take i) 12 (fun x hx => by have := within_true.1 (h.2 x hx); omega)
        have h2 := List.length_take_le i l
        omega
      have hnew : ∀ q, q = within (l[i].length : Int) 1 12 → q = (within n 1 4 && (l.take (i + 1)).all cycIn) := fun q hq => by
        rw [htk, List.all_append, ← Bool.and_assoc, ← hall, hq]
        simp [cycIn]
      obtain ⟨row, hrw⟩ : ∃ x, x = l[i] := ⟨_, rfl⟩
      rw [← hrw] at hr hsl hnew
      obtain ⟨ra, rc, rfl, r1, r2, -, -⟩ := rd_bools hr
      obtain ⟨m, hm⟩ : ∃ m, m = row.length := ⟨_, rfl⟩
      rw [← hm] at hsl hnew hc r1
      have HNW := Lib.hid hnew; have HSL := Lib.hid hsl; have HSM := Lib.hid hsum
      have g1 := (S.below.cell (World.block_lt_of_cell? w _ hc)).trans hc
      clear hc hr hget htk hsl hnew hall hrw hm hsum
      go_wp2_with fail
      refine (l00In_k _ _ _ _).mono ?_
      rintro e w2 ⟨rfl, rfl⟩
      obtain ⟨q, hq⟩ : ∃ q, q = within (m : Int) 1 12 := ⟨_, rfl⟩
      rw [← hq]
      have HQ := Lib.hid hq; clear hq
      go_wp2
      go_roundw
      case rel =>
        refine ⟨i + 1, _, q, by omega, rfl, rfl, by go_num, Lib.hid (HNW.out q HQ.out), Lib.hid (fun hq => ?_), S⟩
        have hm12 := within_true.1 (HQ.out.symm.trans hq)
        have hz := HZ.out (by trivial)
        have := HSM.out
        rw [HSL.out, hz]
        have e := IntWalk.wrap64_in ((sumLen (l.take i) : Int) + (m : Int)) ⟨by omega, by omega⟩
        have e2 : ((sumLen (l.take i) + m : Nat) : Int) = (sumLen (l.take i) : Int) + (m : Int) := by omega
        rw [e2]
        exact e
      case measure => simp [intOf]; omega
    obtain rfl : n = i := by omega
    have ht : l.take n = l := List.take_of_length_le (by rw [HN.out]; exact Nat.le_refl _)
    have hH := HB.out
    have hzz := HZ.out (by trivial)
    rw [ht] at hH hzz
    have H12 : Hid ((within l.length 1 4 && l.all cycIn) = true) := Lib.hid (by rw [← HN.out]; exact hH.symm)
    have KH := Lib.hid (cycOk H12.out)
    have hn4 : n ≤ 4 := by have := KH.out.n4; have := HN.out; omega
    obtain ⟨tot, htot⟩ : ∃ q, q = sumLen l := ⟨_, rfl⟩
    rw [← htot] at hzz
    subst hzz
    have HTOT := Lib.hid htot
    clear ht hH htot HZ HB
    by_cases h10 : 10 < tot
    case pos =>
      have h10' : (10 : Int) < (tot : Int) := by omega
      have R0 := S.blk 0 rfl
      have c0 := R0.cell 0 rfl
      have c1 := R0.cell 1 rfl
      have c2 := R0.cell 2 rfl
      have c3 := R0.cell 3 rfl
      have f0 := R0.free
      go_wp2
      generalize hW : (((wr.setCell _ _).setCell _ _).setCell _ _).setCell _ _ = w9
      replace S := S.set4 rfl hW
      have A3 := S.blk 0 rfl
      have q0 := A3.cell 0 rfl
      have q1 := A3.cell 1 rfl
      have q2 := A3.cell 2 rfl
      have q3 := A3.cell 3 rfl
      obtain rfl : x = (default, 3) := by rw [← HX.out]; unfold manyOfCycles; rw [H12.out, if_pos rfl, if_pos (by rw [← HTOT.out]; exact h10)]
      exact bodyPost_ret (v := .tuple #[.agg #[.int .i64 0, .slice none 0 0, .slice none 0 0, .slice none 0 0], .int .i64 3]) (by simp [results, Try.results20, go_sem, q0, q1, q2, q3]) rfl (S.flat (ow_Many_zero _)).done
    have h10' : ¬ (10 : Int) < (tot : Int) := by omega
    have HX : Hid (x = (⟨1, cycStarts 0 l, l.flatten, cycNext 0 l⟩, 0)) := Lib.hid (by rw [← HX.out]; unfold manyOfCycles; rw [H12.out, if_pos rfl, if_neg (by rw [← HTOT.out]; exact h10)])
    replace S := (((S.alloc (cs := #[.int .i64 1, .slice none 0 0, .slice none 0 0, .slice none 0 0]) (ty := 37)).nils intE 2).nils boolE 4).nils intssE 23
    replace S := S.sel [3, 2, 1, 0, 4]
    go_wp2
    generalize hW : wr.alloc _ = wa at S ⊢
    clear hW
    obtain ⟨g, hg⟩ : ∃ g, g = wr.heap.size := ⟨_, rfl⟩
    rw [← hg] at S ⊢
    clear hg h10 h10'
    go_loopw [8] (fun q wr => ∃ k : Nat, ∃ sv av nv, k ≤ n ∧ q = .int .i64 k ∧ Star w wr [oB g [.int .i64 1, sv, av, nv] 37, oE intsE [sv] (cycStarts 0 (l.take k)), oE boolsE [av] ((l.take k).flatten), oE intsssE [nv] (cycNext 0 (l.take k)), oB w.heap.size [.int .i64 0, .slice none 0 0, .slice none 0 0, .slice none 0 0] 37]) (fun q _ => n - (intOf q).toNat)
    case atStart => exact ⟨0, _, _, _, by omega, rfl, by simpa [cycStarts, cycNext] using S⟩
    case round =>
      clear S
      obtain ⟨k, sv, av, nv, hk, rfl, S⟩ := hrel
      obtain ⟨sa, sn, sc, rfl⟩ := S.slc 1 rfl
      obtain ⟨na, nn, nc, rfl⟩ := S.slc 3 rfl
      by_cases hlt : k < n
      case neg =>
        obtain ⟨aa, an, ac, rfl⟩ := S.slc 2 rfl
        obtain rfl : n = k := by omega
        have ht : l.take n = l := List.take_of_length_le (by rw [HN.out]; exact Nat.le_refl _)
        rw [ht] at S
        clear ht
        have X0 := S.blk 0 rfl
        have c0 := X0.cell 0 rfl
        have c1 := X0.cell 1 rfl
        have c2 := X0.cell 2 rfl
        have c3 := X0.cell 3 rfl
        have R0 := S.blk 4 rfl
        have f0 := R0.cell 0 rfl
        have f1 := R0.cell 1 rfl
        have f2 := R0.cell 2 rfl
        have f3 := R0.cell 3 rfl
        have ff := R0.free
        go_wp2
        generalize hW : (((wr.setCell _ _).setCell _ _).setCell _ _).setCell _ _ = w9
        have S5 := (S.sel [4, 1, 2, 3]).set4 rfl hW
        have A3 := S5.blk 0 rfl
        have q0 := A3.cell 0 rfl
        have q1 := A3.cell 1 rfl
        have q2 := A3.cell 2 rfl
        have q3 := A3.cell 3 rfl
        have S6 := (S5.int bd1).sel [0, 2, 3, 4]
        obtain rfl := HX.out
        exact bodyPost_ret (v := .tuple #[.agg #[.int .i64 1, .slice sa sn sc, .slice aa an ac, .slice na nn nc], .int .i64 0]) (by simp [results, Try.results20, go_sem, q0, q1, q2, q3]) rfl (many_done (x := ⟨1, cycStarts 0 l, l.flatten, cycNext 0 l⟩) S6)
      obtain ⟨aa, ac, rfl⟩ := S.slcN 2 rfl
      obtain ⟨bb, oo, vk, rfl, -, hc, hr⟩ := E2.out k hlt
      have hlk : k < l.length := by rw [← HN.out]; exact hlt
      have hget : l[k]?.getD default = l[k] := by simp [List.getElem?_eq_getElem hlk]
      rw [hget] at hr
      have hrow := KH.out.row _ (List.getElem_mem hlk)
      have hsum := KH.out.sum k
      have htk := List.take_succ_eq_append_getElem hlk
      have hst := cycStarts_snoc 0 (l.take k) l[k]
      have hnx := cycNext_snoc 0 (l.take k) l[k]
      rw [← htk, Nat.zero_add] at hst hnx
      have hfl : (l.take (k + 1)).flatten = (l.take k).flatten ++ l[k] := by rw [htk, List.flatten_append, List.flatten_cons, List.flatten_nil, List.append_nil]
      have hl1 := cycStarts_len 0 (l.take k)
      have hl2 := cycNext_len 0 (l.take k)
      have hl3 := flat_len (l.take k)
      have hlt4 := List.length_take_le k l
      have hn4 := KH.out.n4
      obtain ⟨F, hF⟩ : ∃ F, F = sumLen (l.take k) := ⟨_, rfl⟩
      obtain ⟨row, hrw⟩ : ∃ x, x = l[k] := ⟨_, rfl⟩
      rw [← hF] at hsum hst hnx hl2 hl3
      rw [← hrw] at hr hrow hnx hfl
      obtain ⟨ra, rc, rfl, r1, r2, -, e5⟩ := rd_bools hr
      obtain ⟨m, hm⟩ : ∃ m, m = row.length := ⟨_, rfl⟩
      rw [← hm] at hrow hnx r1 e5 hc hr
      have HR := Lib.hid hr
      have E5 := Lib.hid e5
      have HM := Lib.hid hm
      have HC := Lib.hid hc
      have HST := Lib.hid hst; have HNX := Lib.hid hnx; have HFL := Lib.hid hfl
      have hs12 : (cycStarts 0 (l.take k)).length ≤ 1000000000000 := by omega
      have HL2 := Lib.hid hl2; have HL3 := Lib.hid hl3
      have HRW := Lib.hid hrow
      clear hc hr hget hst hnx hfl hl1 hl2 hl3 htk hF hrw hm e5 hlt4 hn4 hrow
      have g1 := (S.below.cell (World.block_lt_of_cell? w _ HC.out)).trans HC.out
      rw [HL3.out] at S
      have bF : -9223372036854775808 ≤ (F : Int) ∧ (F : Int) ≤ 9223372036854775807 := ⟨by omega, by omega⟩
      have x1 := (S.blk 0 rfl).cell 1 rfl
      have x2 := (S.blk 0 rfl).cell 2 rfl
      have SA := ((S.alloc (cs := #[.int .i64 (F : Int)]) (ty := 2)).int (x := (F : Int)) bF).sel [3, 0, 2, 4, 5, 6]
      go_wp2_with (at_builtin; refine st1_Int64S SA rfl rfl rfl rfl cell_a1 (one_mem rfl) hs12 ?_; intro ta tn tc w7 S7; have cf := (S7.blk 1 rfl).free; have y1 := (S7.blk 1 rfl).cell 1 rfl)
      have SB : Star w (w7.setCell ⟨g, 1, none⟩ (.slice ta tn tc)) [oB g [.int .i64 1, .slice ta tn tc, .slice aa F ac, .slice na nn nc] 37, oE intsE [.slice ta tn tc] (cycStarts 0 (l.take k) ++ [(F : Int)]), oE boolsE [.slice aa F ac] ((l.take k).flatten), oE intsssE [.slice na nn nc] (cycNext 0 (l.take k)), oB w.heap.size [.int .i64 0, .slice none 0 0, .slice none 0 0, .slice none 0 0] 37] := ((((S7.sel [1, 0, 2, 3, 4]).set 1 (.slice ta tn tc))).sel [0, 1, 2, 3, 4])
      generalize hW : w7.setCell ⟨g, 1, none⟩ (.slice ta tn tc) = w8 at SB ⊢
      clear hW cf y1 x1 x2 g1 S SA S7
      go_loopw [10] (fun q wr => ∃ c : Nat, ∃ av nv, c ≤ m ∧ q = .int .i64 c ∧ Star w wr [oB g [.int .i64 1, .slice ta tn tc, av, nv] 37, oE intsE [.slice ta tn tc] (cycStarts 0 (l.take k) ++ [(F : Int)]), oE boolsE [av] ((l.take k).flatten ++ row.take c), oE intsssE [nv] (cycNext 0 (l.take k) ++ (cycRow F m).take c), oB w.heap.size [.int .i64 0, .slice none 0 0, .slice none 0 0, .slice none 0 0] 37]) (fun q _ => m - (intOf q).toNat)
      case atStart => exact ⟨0, _, _, by omega, rfl, by simpa using SB⟩
      case round =>
        clear SB
        obtain ⟨c, av, nv, hc, rfl, S⟩ := hrel
        obtain ⟨ua, un, uc, rfl⟩ := S.slc 2 rfl
        obtain ⟨ya, yn, yc, rfl⟩ := S.slc 3 rfl
        have g1 := (S.below.cell (World.block_lt_of_cell? w _ HC.out)).trans HC.out
        by_cases hcm : c < m
        case neg =>
          obtain rfl : m = c := by omega
          have ht : (cycRow F m).take m = cycRow F m := take_range_all _ _
          have ht2 : row.take m = row := List.take_of_length_le (by rw [HM.out]; exact Nat.le_refl _)
          rw [ht, ht2, ← HST.out, ← HFL.out, ← HNX.out] at S
          clear ht ht2
          go_wp2
          go_roundw
          case rel => exact ⟨k + 1, _, _, _, by omega, by go_num, S⟩
          case measure => simp [intOf]; omega
        have hlN : (cycNext 0 (l.take k) ++ (cycRow F m).take c).length ≤ 1000000000000 := by
          have := List.length_take_le c (cycRow F m)
          rw [List.length_append, HL2.out]; have := HRW.out; omega
        have hlA : ((l.take k).flatten ++ row.take c).length ≤ 1000000000000 := by
          have := List.length_take_le c row
          rw [List.length_append, HL3.out]; have := HRW.out; omega
        have hR := take_range_map (fun k => [[((F + (k + 1) % m : Nat) : Int)]]) m c hcm
        have HR3 := Lib.hid hR; clear hR
        obtain ⟨eb, eo, rfl, -, he⟩ := E5.out c hcm
        have hcr : c < row.length := by rw [← HM.out]; exact hcm
        have hrt := List.take_succ_eq_append_getElem hcr
        have hge : row[c]?.getD false = row[c] := by simp [List.getElem?_eq_getElem hcr]
        rw [hge] at he
        obtain ⟨rv, hrv⟩ : ∃ x, x = row[c] := ⟨_, rfl⟩
        rw [← hrv] at he hrt
        have ge := (S.below.cell (World.block_lt_of_cell? w _ he)).trans he
        have HRT := Lib.hid hrt
        clear hge he hrt hrv
        have x2 := (S.blk 0 rfl).cell 2 rfl
        have x2a := fun o => cell_al x2 o
        have g1a := fun o => cell_al g1 o
        have gea := fun o => cell_al ge o
        have w1c : IntKind.i64.wrap ((c : Int) + 1) = (c : Int) + 1 := IntWalk.i64_in _ ⟨by omega, by omega⟩
        have wfc : IntKind.i64.wrap ((F : Int) + (c : Int)) = (F : Int) + (c : Int) := IntWalk.i64_in _ ⟨by omega, by have := HRW.out; omega⟩
        have wfd : IntKind.i64.wrap ((F : Int) + (c : Int) + 1) = (F : Int) + (c : Int) + 1 := IntWalk.i64_in _ ⟨by omega, by have := HRW.out; omega⟩
        have SA := ((S.alloc (cs := #[.bool rv]) (ty := 4)).bool (x := rv)).sel [4, 0, 2, 3, 5, 6]
        have SAD := SA.drew
        have HS := Lib.hid S
        by_cases hcl : c + 1 = m
        case pos =>
          have teq : (((c : Int) + 1) == (m : Int)) = true := by simp; omega
          have hzz : (c + 1) % m = 0 := by rw [hcl, Nat.mod_self]
          have hval : ((F + (c + 1) % m : Nat) : Int) = (F : Int) := by rw [hzz]; omega
          have bt : -9223372036854775808 ≤ (F : Int) ∧ (F : Int) ≤ 9223372036854775807 := bF
          have HV := Lib.hid hval
          have HCL := Lib.hid hcl
          clear hzz hval hcl S
          go_upto_region 24 with fail
          go_cut [91] (fun s wx => ∃ ja jn jc, Star w wx [oB g [.int .i64 1, .slice ta tn tc, .slice ja jn jc, .slice ya yn yc] 37, oE intsE [.slice ta tn tc] (cycStarts 0 (l.take k) ++ [(F : Int)]), oE boolsE [.slice ja jn jc] (((l.take k).flatten ++ row.take c) ++ [rv]), oE intsssE [.slice ya yn yc] (cycNext 0 (l.take k) ++ (cycRow F m).take c), oB w.heap.size [.int .i64 0, .slice none 0 0, .slice none 0 0, .slice none 0 0] 37])
          case first =>
            go_region_law (first
              | (with_reducible show (if _ then Oper.wp _ { dst := some 91, op := _, type := _, pos := _, after := _, guard := _ } _ _ _ _ else _)
                 refine sst1_BoolS SAD rfl rfl rfl rfl (by first | exact cell_ad | exact cell_da | exact cell_a1) (one_mem rfl) hlA ?_
                 intro ja jn jc w9 S9
                 have x9 := (S9.blk 1 rfl).cell 2 rfl
                 have cf := (S9.blk 1 rfl).free))
            all_goals
              go_wp2
              go_meet
              exact ⟨ja, jn, jc, ((S9.sel [1, 2, 0, 3, 4]).set 2 (.slice ja jn jc)).sel [0, 1, 2, 3, 4]⟩
          case rest =>
            clear HS SA SAD x2 x2a g1a gea ge g1
            obtain ⟨ja, jn, jc, S⟩ := hcut
            have x3 := (S.blk 0 rfl).cell 3 rfl
            have T1 := (S.alloc (cs := #[.int .i64 ((F : Int))]) (ty := 2)).lit (E := intE) [((F : Int))] (fun x => Value.int .i64 x) rfl rfl (int_in _ bt _) (by simp [maxLen])
            have T2 := T1.alloc (cs := #[.slice (some ⟨wc.heap.size, 0, none⟩) 1 1]) (ty := 34)
            rw [World.size_alloc] at T2
            have T3 := T2.lit1 rfl
            have T4 := T3.alloc (cs := #[.slice (some ⟨wc.heap.size + 1, 0, none⟩) 1 1]) (ty := 23)
            rw [World.size_alloc, World.size_alloc] at T4
            have SA := T4.sel [5, 1, 2, 3, 4, 6]
            clear T1 T2 T3 T4
            go_wp2_with (at_builtin; refine st1_Int64SSS SA rfl rfl rfl rfl cell_a3 (one_mem rfl) hlN ?_; intro ka kn kc w9 S9; have cf := (S9.blk 1 rfl).free; have x9 := (S9.blk 1 rfl).cell 3 rfl)
            go_roundw
            case rel => exact ⟨c + 1, _, _, by omega, by go_num, by unfold cycRow at S9 ⊢; rw [HR3.out, HRT.out, HV.out, ← List.append_assoc, ← List.append_assoc]; exact ((S9.sel [1, 2, 3, 0, 4]).set 3 (.slice ka kn kc)).sel [0, 1, 2, 3, 4]⟩
            case measure => simp [intOf]; omega
        case neg =>
          have teq : (((c : Int) + 1) == (m : Int)) = false := by simp; omega
          have hzz : (c + 1) % m = c + 1 := Nat.mod_eq_of_lt (by omega)
          have hval : ((F + (c + 1) % m : Nat) : Int) = (F : Int) + (c : Int) + 1 := by rw [hzz]; omega
          have bt : -9223372036854775808 ≤ (F : Int) + (c : Int) + 1 ∧ (F : Int) + (c : Int) + 1 ≤ 9223372036854775807 := ⟨by omega, by have := HRW.out; omega⟩
          have HV := Lib.hid hval
          have HCL := Lib.hid hcl
          clear hzz hval hcl S
          go_upto_region 24 with fail
          go_cut [91] (fun s wx => ∃ ja jn jc, Star w wx [oB g [.int .i64 1, .slice ta tn tc, .slice ja jn jc, .slice ya yn yc] 37, oE intsE [.slice ta tn tc] (cycStarts 0 (l.take k) ++ [(F : Int)]), oE boolsE [.slice ja jn jc] (((l.take k).flatten ++ row.take c) ++ [rv]), oE intsssE [.slice ya yn yc] (cycNext 0 (l.take k) ++ (cycRow F m).take c), oB w.heap.size [.int .i64 0, .slice none 0 0, .slice none 0 0, .slice none 0 0] 37])
          case first =>
            go_region_law (first
              | (with_reducible show (if _ then Oper.wp _ { dst := some 91, op := _, type := _, pos := _, after := _, guard := _ } _ _ _ _ else _)
                 refine sst1_BoolS SAD rfl rfl rfl rfl (by first | exact cell_ad | exact cell_da | exact cell_a1) (one_mem rfl) hlA ?_
                 intro ja jn jc w9 S9
                 have x9 := (S9.blk 1 rfl).cell 2 rfl
                 have cf := (S9.blk 1 rfl).free))
            all_goals
              go_wp2
              go_meet
              exact ⟨ja, jn, jc, ((S9.sel [1, 2, 0, 3, 4]).set 2 (.slice ja jn jc)).sel [0, 1, 2, 3, 4]⟩
          case rest =>
            clear HS SA SAD x2 x2a g1a gea ge g1
            obtain ⟨ja, jn, jc, S⟩ := hcut
            have x3 := (S.blk 0 rfl).cell 3 rfl
            have T1 := (S.alloc (cs := #[.int .i64 ((F : Int) + (c : Int) + 1)]) (ty := 2)).lit (E := intE) [((F : Int) + (c : Int) + 1)] (fun x => Value.int .i64 x) rfl rfl (int_in _ bt _) (by simp [maxLen])
            have T2 := T1.alloc (cs := #[.slice (some ⟨wc.heap.size, 0, none⟩) 1 1]) (ty := 34)
            rw [World.size_alloc] at T2
            have T3 := T2.lit1 rfl
            have T4 := T3.alloc (cs := #[.slice (some ⟨wc.heap.size + 1, 0, none⟩) 1 1]) (ty := 23)
            rw [World.size_alloc, World.size_alloc] at T4
            have SA := T4.sel [5, 1, 2, 3, 4, 6]
            clear T1 T2 T3 T4
            go_wp2_with (at_builtin; refine st1_Int64SSS SA rfl rfl rfl rfl cell_a3 (one_mem rfl) hlN ?_; intro ka kn kc w9 S9; have cf := (S9.blk 1 rfl).free; have x9 := (S9.blk 1 rfl).cell 3 rfl)
            go_roundw
            case rel => exact ⟨c + 1, _, _, by omega, by go_num, by unfold cycRow at S9 ⊢; rw [HR3.out, HRT.out, HV.out, ← List.append_assoc, ← List.append_assoc]; exact ((S9.sel [1, 2, 3, 0, 4]).set 3 (.slice ka kn kc)).sel [0, 1, 2, 3, 4]⟩
            case measure => simp [intOf]; omega

end Go.Proofs.Ytipandcflcidlaa
