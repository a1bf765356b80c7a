/-
  ManyOfCycles of the program (written by a program of this claim's own, gen_moc.py).
-/
import Derived.Test.YtipandcflcidlaaMocDef
namespace Go.Proofs.Ytipandcflcidlaa
open Go.RowKit

set_option maxHeartbeats 8000000 in
set_option maxRecDepth 100000 in
theorem manyOfCycles_is (x : Many × Int) (v : Value) (l : List (List Bool)) (B : Nat) (w : World) (hB0 : B ≤ w.heap.size) (h : boolssE.rd w B [v] l) (hx : manyOfCycles l = x) :
    Calls Try.prog 22 #[v] w (MakesC manyE x w) := by
  have HX := Lib.hid hx
  have RA := Lib.hid h
  obtain ⟨pa, pc, rfl, p1, p2, -, e2⟩ := rd_slice1 rfl h
  obtain ⟨n, hn⟩ : ∃ n, n = l.length := ⟨_, rfl⟩
  rw [← hn] at p1 e2 RA ⊢
  have HN := Lib.hid hn
  have E2 := Lib.hid e2
  clear hx h hn e2
  have S := (Star.nil w).alloc (cs := #[.int .i64 0, .slice none 0 0, .slice none 0 0, .slice none 0 0]) (ty := 37)
  go_enter Try.func22, Try.ntmps22
  go_wp2_with fail
  generalize hW : w.alloc _ = w0 at S ⊢
  clear hW
  replace S : Star w w0 [oB w.heap.size [.int .i64 0, .slice none 0 0, .slice none 0 0, .slice none 0 0] 37] := S
  refine (size_boolss _ l B _ (boolssE.rd_of (S.below.mono hB0) RA.out)).mono ?_
  rintro e w1 ⟨rfl, b⟩
  rw [← HN.out]
  replace S := S.step b
  clear b
  go_wp2_with fail
  refine (within_any _ _ _ _).mono ?_
  rintro e w2 ⟨rfl, b⟩
  replace S := S.step b
  clear b
  cases h1 : within n 1 4
  case false =>
    have R0 := S.blk 0 rfl
    have c0 := R0.cell 0 rfl
    have c1 := R0.cell 1 rfl
    have c2 := R0.cell 2 rfl
    have c3 := R0.cell 3 rfl
    have f0 := R0.free
    go_wp2
    generalize hW : (((w2.setCell _ _).setCell _ _).setCell _ _).setCell _ _ = w9
    replace S := S.set4 rfl hW
    have A3 := S.blk 0 rfl
    have q0 := A3.cell 0 rfl
    have q1 := A3.cell 1 rfl
    have q2 := A3.cell 2 rfl
    have q3 := A3.cell 3 rfl
    obtain rfl : x = (default, 2) := by rw [← HX.out]; unfold manyOfCycles; rw [← HN.out, h1]; rfl
    exact bodyPost_ret (v := .tuple #[.agg #[.int .i64 0, .slice none 0 0, .slice none 0 0, .slice none 0 0], .int .i64 2]) (by simp [results, Try.results22, go_sem, q0, q1, q2, q3]) rfl (S.flat (ow_Many_zero _)).done
  go_wp2_with fail
  refine (containsFunc_boolss _ l B _ _ _ _ (fun z => !cycIn z) (Nat.le_trans hB0 S.below.size) (boolssE.rd_of (S.below.mono hB0) RA.out) cf_moc1 (fun vk z w3 h3 hz => ?_)).mono ?_
  · exact moc1_any _ z B _ hz
  rintro e w3 ⟨rfl, b⟩
  replace S := S.step b
  clear b
  have hany : (l.any fun z => !cycIn z) = !(l.all cycIn) := by rw [← any_not, Bool.not_not]
  rw [hany]
  clear hany
  cases h2 : l.all cycIn
  case false =>
    have R0 := S.blk 0 rfl
    have c0 := R0.cell 0 rfl
    have c1 := R0.cell 1 rfl
    have c2 := R0.cell 2 rfl
    have c3 := R0.cell 3 rfl
    have f0 := R0.free
    go_wp2
    generalize hW : (((w3.setCell _ _).setCell _ _).setCell _ _).setCell _ _ = w9
    replace S := S.set4 rfl hW
    have A3 := S.blk 0 rfl
    have q0 := A3.cell 0 rfl
    have q1 := A3.cell 1 rfl
    have q2 := A3.cell 2 rfl
    have q3 := A3.cell 3 rfl
    obtain rfl : x = (default, 2) := by rw [← HX.out]; unfold manyOfCycles; rw [← HN.out, h1, h2]; rfl
    exact bodyPost_ret (v := .tuple #[.agg #[.int .i64 0, .slice none 0 0, .slice none 0 0, .slice none 0 0], .int .i64 2]) (by simp [results, Try.results22, go_sem, q0, q1, q2, q3]) rfl (S.flat (ow_Many_zero _)).done
  have H12 : Hid ((within l.length 1 4 && l.all cycIn) = true) := Lib.hid (by rw [← HN.out, h1, h2]; rfl)
  have KH := Lib.hid (cycOk H12.out)
  have hn4 : n ≤ 4 := by have := KH.out.n4; have := HN.out; omega
  clear h1 h2
  replace S := (((S.alloc (cs := #[.int .i64 1, .slice none 0 0, .slice none 0 0, .slice none 0 0]) (ty := 37)).nils intE 2).nils boolE 4).nils intssE 23
  replace S := S.sel [3, 2, 1, 0, 4]
  go_wp2
  generalize hW : w3.alloc _ = wa at S ⊢
  clear hW
  obtain ⟨g, hg⟩ : ∃ g, g = w3.heap.size := ⟨_, rfl⟩
  rw [← hg] at S ⊢
  clear hg
  go_loopw [21] (fun q wr => ∃ k : Nat, ∃ sv av nv, k ≤ n ∧ q = .int .i64 k ∧ Star w wr [oB g [.int .i64 1, sv, av, nv] 37, oE intsE [sv] (cycStarts 0 (l.take k)), oE boolsE [av] ((l.take k).flatten), oE intsssE [nv] (cycNext 0 (l.take k)), oB w.heap.size [.int .i64 0, .slice none 0 0, .slice none 0 0, .slice none 0 0] 37]) (fun q _ => n - (intOf q).toNat)
  case atStart => exact ⟨0, _, _, _, by omega, rfl, by simpa [cycStarts, cycNext] using S⟩
  case round =>
    clear S
    obtain ⟨k, sv, av, nv, hk, rfl, S⟩ := hrel
    obtain ⟨sa, sn, sc, rfl⟩ := S.slc 1 rfl
    obtain ⟨aa, an, ac, rfl⟩ := S.slc 2 rfl
    by_cases hlt : k < n
    case neg =>
      obtain rfl : n = k := by omega
      have ht : l.take n = l := List.take_of_length_le (by rw [HN.out]; exact Nat.le_refl _)
      rw [ht] at S
      obtain ⟨na, nc, rfl⟩ := S.slcN 3 rfl
      have hs48 := KH.out.sum n
      rw [ht] at hs48
      have hln := cycNext_len 0 l
      obtain ⟨nn, hnn⟩ : ∃ q, q = (cycNext 0 l).length := ⟨_, rfl⟩
      rw [← hnn] at S hln
      have HLN := Lib.hid hln; have HNN := Lib.hid hnn
      clear ht hln hnn hs48
      by_cases h10 : 10 < nn
      case pos =>
        have h10' : (10 : Int) < (nn : Int) := by omega
        have x3 := (S.blk 0 rfl).cell 3 rfl
        replace S := S.sel [4]
        have R0 := S.blk 0 rfl
        have c0 := R0.cell 0 rfl
        have c1 := R0.cell 1 rfl
        have c2 := R0.cell 2 rfl
        have c3 := R0.cell 3 rfl
        have f0 := R0.free
        go_wp2
        generalize hW : (((wr.setCell _ _).setCell _ _).setCell _ _).setCell _ _ = w9
        replace S := S.set4 rfl hW
        have A3 := S.blk 0 rfl
        have q0 := A3.cell 0 rfl
        have q1 := A3.cell 1 rfl
        have q2 := A3.cell 2 rfl
        have q3 := A3.cell 3 rfl
        obtain rfl : x = (default, 3) := by rw [← HX.out]; unfold manyOfCycles; rw [H12.out, if_pos rfl, if_pos (by rw [← HLN.out]; exact h10)]
        exact bodyPost_ret (v := .tuple #[.agg #[.int .i64 0, .slice none 0 0, .slice none 0 0, .slice none 0 0], .int .i64 3]) (by simp [results, Try.results22, go_sem, q0, q1, q2, q3]) rfl (S.flat (ow_Many_zero _)).done
      have h10' : ¬ (10 : Int) < (nn : Int) := by omega
      have HX : Hid (x = (⟨1, cycStarts 0 l, l.flatten, cycNext 0 l⟩, 0)) := Lib.hid (by rw [← HX.out]; unfold manyOfCycles; rw [H12.out, if_pos rfl, if_neg (by rw [← HLN.out]; exact h10)])
      have X0 := S.blk 0 rfl
      have c0 := X0.cell 0 rfl
      have c1 := X0.cell 1 rfl
      have c2 := X0.cell 2 rfl
      have c3 := X0.cell 3 rfl
      have R0 := S.blk 4 rfl
      have f0 := R0.cell 0 rfl
      have f1 := R0.cell 1 rfl
      have f2 := R0.cell 2 rfl
      have f3 := R0.cell 3 rfl
      have ff := R0.free
      go_wp2
      generalize hW : (((wr.setCell _ _).setCell _ _).setCell _ _).setCell _ _ = w9
      have S5 := (S.sel [4, 1, 2, 3]).set4 rfl hW
      have A3 := S5.blk 0 rfl
      have q0 := A3.cell 0 rfl
      have q1 := A3.cell 1 rfl
      have q2 := A3.cell 2 rfl
      have q3 := A3.cell 3 rfl
      have S6 := (S5.int bd1).sel [0, 2, 3, 4]
      obtain rfl := HX.out
      exact bodyPost_ret (v := .tuple #[.agg #[.int .i64 1, .slice sa sn sc, .slice aa an ac, .slice na nn nc], .int .i64 0]) (by simp [results, Try.results22, go_sem, q0, q1, q2, q3]) rfl (many_done (x := ⟨1, cycStarts 0 l, l.flatten, cycNext 0 l⟩) S6)
    obtain ⟨bb, oo, vk, rfl, -, hc, hr⟩ := E2.out k hlt
    have hlk : k < l.length := by rw [← HN.out]; exact hlt
    have hget : l[k]?.getD default = l[k] := by simp [List.getElem?_eq_getElem hlk]
    rw [hget] at hr
    have hrow := KH.out.row _ (List.getElem_mem hlk)
    have hsum := KH.out.sum k
    have htk := List.take_succ_eq_append_getElem hlk
    have hst := cycStarts_snoc 0 (l.take k) l[k]
    have hnx := cycNext_snoc 0 (l.take k) l[k]
    rw [← htk, Nat.zero_add] at hst hnx
    have hfl : (l.take (k + 1)).flatten = (l.take k).flatten ++ l[k] := by rw [htk, List.flatten_append, List.flatten_cons, List.flatten_nil, List.append_nil]
    have hl1 := cycStarts_len 0 (l.take k)
    have hl2 := cycNext_len 0 (l.take k)
    have hl3 := flat_len (l.take k)
    have hlt4 := List.length_take_le k l
    have hn4 := KH.out.n4
    obtain ⟨F, hF⟩ : ∃ F, F = sumLen (l.take k) := ⟨_, rfl⟩
    obtain ⟨row, hrw⟩ : ∃ x, x = l[k] := ⟨_, rfl⟩
    rw [← hF] at hsum hst hnx hl2 hl3
    rw [← hrw] at hr hrow hnx hfl
    obtain ⟨ra, rc, rfl, r1, r2, -, e5⟩ := rd_bools hr
    obtain ⟨m, hm⟩ : ∃ m, m = row.length := ⟨_, rfl⟩
    rw [← hm] at hrow hnx r1 e5 hc hr
    have HR := Lib.hid hr
    have E5 := Lib.hid e5
    have HM := Lib.hid hm
    have HC := Lib.hid hc
    have HST := Lib.hid hst; have HNX := Lib.hid hnx; have HFL := Lib.hid hfl
    have hs12 : (cycStarts 0 (l.take k)).length ≤ 1000000000000 := by omega
    have HL2 := Lib.hid hl2; have HL3 := Lib.hid hl3
    have HRW := Lib.hid hrow
    clear hc hr hget hst hnx hfl hl1 hl2 hl3 htk hF hrw hm e5 hlt4 hn4 hrow
    have g1 := (S.below.cell (World.block_lt_of_cell? w _ HC.out)).trans HC.out
    obtain ⟨na, nn, nc, rfl⟩ := S.slc 3 rfl
    have x3 := (S.blk 0 rfl).cell 3 rfl
    go_wp2_with fail
    refine (size_intsss _ (cycNext 0 (l.take k)) _ _ (S.rd 3 rfl)).mono ?_
    rintro e w4 ⟨rfl, b⟩
    rw [HL2.out]
    replace S := S.step b
    clear b x3 g1
    have bF : -9223372036854775808 ≤ (F : Int) ∧ (F : Int) ≤ 9223372036854775807 := ⟨by omega, by omega⟩
    have x1 := (S.blk 0 rfl).cell 1 rfl
    have SA := ((S.alloc (cs := #[.int .i64 (F : Int)]) (ty := 2)).int (x := (F : Int)) bF).sel [3, 0, 2, 4, 5, 6]
    go_wp2_with (first
      | (at_builtin
         refine stS_BoolS (ys := row) SB rfl rfl rfl hys hfy hs hfl2 ?_
         intro ua un uc w8 S8
         have cf := (S8.blk 1 rfl).free
         have y2 := (S8.blk 1 rfl).cell 2 rfl
         have SD : Star w (w8.setCell ⟨g, 2, none⟩ (.slice ua un uc)) [oB g [.int .i64 1, .slice ta tn tc, .slice ua un uc, .slice na nn nc] 37, oE intsE [.slice ta tn tc] (cycStarts 0 (l.take k) ++ [(F : Int)]), oE boolsE [.slice ua un uc] ((l.take k).flatten ++ row), oE intsssE [.slice na nn nc] (cycNext 0 (l.take k)), oB w.heap.size [.int .i64 0, .slice none 0 0, .slice none 0 0, .slice none 0 0] 37] := ((S8.sel [1, 2, 0, 3, 4]).set 2 (.slice ua un uc)))
      | (at_builtin
         refine st1_Int64S SA rfl rfl rfl rfl cell_a1 (one_mem rfl) hs12 ?_
         intro ta tn tc w7 S7
         have cf := (S7.blk 1 rfl).free
         have y1 := (S7.blk 1 rfl).cell 1 rfl
         have y2 := (S7.blk 1 rfl).cell 2 rfl
         have SB : Star w (w7.setCell ⟨g, 1, none⟩ (.slice ta tn tc)) [oE boolsE [.slice aa an ac] ((l.take k).flatten), oB g [.int .i64 1, .slice ta tn tc, .slice aa an ac, .slice na nn nc] 37, oE intsE [.slice ta tn tc] (cycStarts 0 (l.take k) ++ [(F : Int)]), oE intsssE [.slice na nn nc] (cycNext 0 (l.take k)), oB w.heap.size [.int .i64 0, .slice none 0 0, .slice none 0 0, .slice none 0 0] 37] := ((((S7.sel [1, 0, 2, 3, 4]).set 1 (.slice ta tn tc))).sel [2, 0, 1, 3, 4])
         obtain ⟨css, fys, hys, hfy, hs⟩ := src_bools (boolsE.rd_of (SB.below.mono hB0) HR.out)
         have hfl2 : (l.take k).flatten.length + row.length ≤ 1000000000000 := by rw [HL3.out, ← HM.out]; have := HRW.out; omega))
    refine (size_bools _ row B _ (boolsE.rd_of (SD.below.mono hB0) HR.out)).mono ?_
    rintro e w5 ⟨rfl, b⟩
    rw [← HM.out]
    have S := SD.step b
    clear b SD
    go_wp2
    go_loopw [41] (fun q wr => ∃ c : Nat, ∃ vn, c ≤ m ∧ q = .int .i64 c ∧ Star w wr [oB g [.int .i64 1, .slice ta tn tc, .slice ua un uc, vn] 37, oE intsE [.slice ta tn tc] (cycStarts 0 (l.take k) ++ [(F : Int)]), oE boolsE [.slice ua un uc] ((l.take k).flatten ++ row), oE intsssE [vn] (cycNext 0 (l.take k) ++ (cycRow F m).take c), oB w.heap.size [.int .i64 0, .slice none 0 0, .slice none 0 0, .slice none 0 0] 37]) (fun q _ => m - (intOf q).toNat)
    case atStart => exact ⟨0, _, by omega, rfl, by simpa using S⟩
    case round =>
      clear S
      obtain ⟨c, vn, hc, rfl, S⟩ := hrel
      obtain ⟨ya, yn, yc, rfl⟩ := S.slc 3 rfl
      by_cases hcm : c < m
      case neg =>
        obtain rfl : m = c := by omega
        have ht : (cycRow F m).take m = cycRow F m := take_range_all _ _
        rw [ht, ← HST.out, ← HFL.out, ← HNX.out] at S
        go_wp2
        go_roundw
        case rel => exact ⟨k + 1, _, _, _, by omega, by go_num, S⟩
        case measure => simp [intOf]; omega
      have hlN : (cycNext 0 (l.take k) ++ (cycRow F m).take c).length ≤ 1000000000000 := by
        have := List.length_take_le c (cycRow F m)
        rw [List.length_append, HL2.out]; have := HRW.out; omega
      have hR := take_range_map (fun k => [[((F + (k + 1) % m : Nat) : Int)]]) m c hcm
      have HR3 := Lib.hid hR; clear hR
      have hm0 : ¬ m = 0 := by omega
      have w1c : IntKind.i64.wrap ((c : Int) + 1) = (c : Int) + 1 := IntWalk.i64_in _ ⟨by omega, by omega⟩
      have hzm : (c + 1) % m < m := Nat.mod_lt _ (by omega)
      have hrem : ((c : Int) + 1).tmod (m : Int) = (((c + 1) % m : Nat) : Int) := by rw [show ((c : Int) + 1) = ((c + 1 : Nat) : Int) from by omega]; rfl
      obtain ⟨z, hz⟩ : ∃ z, z = (c + 1) % m := ⟨_, rfl⟩
      rw [← hz] at hrem hzm
      have HZ := Lib.hid hz; clear hz
      have x3 := (S.blk 0 rfl).cell 3 rfl
      have bt : -9223372036854775808 ≤ (F : Int) + (z : Int) ∧ (F : Int) + (z : Int) ≤ 9223372036854775807 := ⟨by omega, by have := HRW.out; omega⟩
      have wt := IntWalk.i64_in _ bt
      have hsize : ∀ W, boolsE.rd W B [.slice ra m rc] row → Calls Try.prog 26 #[.slice ra m rc] W (Gives (.int .i64 m) W) := fun W h => by
        have := size_bools _ row B W h
        rw [← HM.out] at this
        exact this
      have HSZ := Lib.hid hsize; clear hsize
      have SD := S.drew
      go_upto_region 13 with fail
      go_region_law (first
        | (go_simp; go_at_call 26
           refine (HSZ.out _ (by exact boolsE.rd_of (SD.below.mono hB0) HR.out)).mono ?_
           rintro e wq ⟨rfl, bq⟩
           have SQ := SD.step bq
           have xq := (SQ.blk 0 rfl).cell 3 rfl
           have xqa := fun o => cell_al xq o
           have xqb := fun o o' => cell_al (cell_al xq o) o'
           have xqc := fun o o' o'' => cell_al (cell_al (cell_al xq o) o') o''
           have T1 := (SQ.alloc (cs := #[.int .i64 ((F : Int) + (z : Int))]) (ty := 2)).lit (E := intE) [(F : Int) + (z : Int)] (fun x => Value.int .i64 x) rfl rfl (int_in _ bt _) (by simp [maxLen])
           have T2 := T1.alloc (cs := #[.slice (some ⟨wq.heap.size, 0, none⟩) 1 1]) (ty := 34)
           rw [World.size_alloc] at T2
           have T3 := T2.lit1 rfl
           have T4 := T3.alloc (cs := #[.slice (some ⟨wq.heap.size + 1, 0, none⟩) 1 1]) (ty := 23)
           rw [World.size_alloc, World.size_alloc] at T4
           have SA := T4.sel [5, 1, 2, 3, 4, 6])
        | (with_reducible show (if _ then Oper.wp _ { dst := some 56, op := _, type := _, pos := _, after := _, guard := _ } _ _ _ _ else _)
           refine sst1_Int64SSS SA rfl rfl rfl rfl cell_a3 (one_mem rfl) hlN ?_
           intro ja jn jc w9 S9
           have x9 := (S9.blk 1 rfl).cell 3 rfl
           have cf := (S9.blk 1 rfl).free))
      all_goals
        go_wp2
        go_roundw
        case rel => exact ⟨c + 1, _, by omega, by go_num, by unfold cycRow at S9 ⊢; rw [HR3.out, ← HZ.out, ← List.append_assoc]; exact (S9.sel [1, 2, 3, 0, 4]).set 3 (.slice ja jn jc)⟩
        case measure => simp [intOf]; omega

end Go.Proofs.Ytipandcflcidlaa
