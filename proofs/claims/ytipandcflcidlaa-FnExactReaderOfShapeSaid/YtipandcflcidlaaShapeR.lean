/-
  ReaderOfShape: what the program and the reference answer.
-/
import Derived.Test.YtipandcflcidlaaStates
import Derived.Test.YtipandcflcidlaaSizes
import Derived.Test.YtipandcflcidlaaClone
import Derived.Test.YtipandcflcidlaaMReader
namespace Go.Proofs.Ytipandcflcidlaa
open Go.RowKit

def shapeNext (tail : Int) (n : Nat) : List (List Int) := (List.range n).map fun s => [if s + 1 = n then tail else (s : Int) + 1]

def readerOfShape (tail : Int) (takes : List Bool) : Reader × Int :=
  if within takes.length 1 300 && within tail 0 (takes.length - 1) then (⟨1, 0, takes, shapeNext tail takes.length⟩, 0) else (default, 2)

theorem cnt_readerOfShape (tail : Int) (takes : List Bool) : readM.cnt (readerOfShape tail takes).1 ≤ 4611686018427387000 := by
  unfold readerOfShape
  split
  · rename_i h
    rw [Bool.and_eq_true] at h
    have h1 := (within_true.1 h.1).2
    have : ∀ l : List Nat, ((l.map fun s => ([if s + 1 = takes.length then tail else (s : Int) + 1] : List Int)).map intsM.cnt).sum = l.length := by
      intro l
      induction l with
      | nil => rfl
      | cons a l ih => rw [List.map_cons, List.map_cons, List.sum_cons, ih, List.length_cons]; show 1 + _ = _; omega
    show takes.length + ((shapeNext tail takes.length).map intsM.cnt).sum ≤ _
    unfold shapeNext
    rw [this, List.length_range]
    omega
  · decide

theorem ow_Reader_zero (w : World) : readE.ow w [.int .i64 0, .int .i64 0, .slice none 0 0, .slice none 0 0] default [] :=
  ow_Reader (r := default) ⟨by decide, by decide⟩ ⟨by decide, by decide⟩ (ow_nil _ _ _) (ow_nil _ _ _)

theorem shapeNext_take (tail : Int) (n k : Nat) (h : k < n) : (shapeNext tail n).take (k + 1) = (shapeNext tail n).take k ++ [[if k + 1 = n then tail else (k : Int) + 1]] := by
  unfold shapeNext
  rw [List.take_succ_eq_append_getElem (by simpa using h)]
  simp

set_option maxHeartbeats 1000000 in
theorem readerOfShape_is (x : Reader × Int) (tail : Int) (v : Value) (takes : List Bool) (B : Nat) (w : World) (hB0 : B ≤ w.heap.size) (ht : -9223372036854775808 ≤ tail ∧ tail ≤ 9223372036854775807) (h : boolsE.rd w B [v] takes) (hx : readerOfShape tail takes = x) :
    Calls Try.prog 8 #[.int .i64 tail, v] w (MakesC readE x w) := by
  have R := Lib.hid h
  obtain ⟨a, cap, rfl, l1, l2, -, e4⟩ := rd_bools h
  obtain ⟨n, hn⟩ : ∃ n, n = takes.length := ⟨_, rfl⟩
  rw [← hn] at l1 R ⊢
  have HN : Hid (n = takes.length) := Lib.hid hn
  have HX := Lib.hid hx
  clear h hx hn e4
  go_enter Try.func8, Try.ntmps8
  go_wp2_with fail
  generalize hW : w.alloc _ = w0
  obtain ⟨A0, B0⟩ := blk1 hW
  clear hW
  have hR : (boolsE).rd w0 B [.slice a n cap] takes := boolsE.rd_of (B0.mono hB0) R.out
  have hS : B ≤ w0.heap.size := Nat.le_trans hB0 B0.size
  refine (size_bools _ takes B _ hR).mono ?_
  rintro e w1 ⟨rfl, b⟩
  rw [← HN.out]
  replace A0 := A0.of b A0.lt
  replace B0 := B0.trans (b.mono B0.size)
  replace hR := boolsE.rd_of (b.mono hS) hR
  replace hS := Nat.le_trans hS b.size
  clear b
  go_wp2_with fail
  refine (within_k _ _ _ _).mono ?_
  rintro e w2 ⟨rfl, rfl⟩
  have c0 := A0.cell 0 rfl
  have c1 := A0.cell 1 rfl
  have c2 := A0.cell 2 rfl
  have c3 := A0.cell 3 rfl
  have f0 := A0.free
  cases h1 : within (n : Int) 1 300
  case false =>
    go_wp2
    generalize hW : (((w1.setCell _ _).setCell _ _).setCell _ _).setCell _ _ = w3
    obtain ⟨A3, bt⟩ := A0.set4 rfl hW
    have q0 := A3.cell 0 rfl
    have q1 := A3.cell 1 rfl
    have q2 := A3.cell 2 rfl
    have q3 := A3.cell 3 rfl
    obtain rfl : x = (default, 2) := by rw [← HX.out]; unfold readerOfShape; rw [← HN.out, h1]; rfl
    exact bodyPost_ret (v := .tuple #[.agg #[.int .i64 0, .int .i64 0, .slice none 0 0, .slice none 0 0], .int .i64 2]) (by simp [results, Try.results8, go_sem, q0, q1, q2, q3]) rfl
      ⟨_, [], rfl, ow_Reader_zero _, List.nodup_nil, (fun b hb => by cases hb), B0.trans (bt.below (by simp) B0.size)⟩
  have hn3 := within_true.1 h1
  have hw : IntKind.i64.wrap ((n : Int) - 1) = (n : Int) - 1 := IntWalk.i64_in _ ⟨by omega, by omega⟩
  have H1 := Lib.hid h1; clear h1
  go_wp2_with fail
  refine (within_k _ _ _ _).mono ?_
  rintro e w2 ⟨rfl, rfl⟩
  cases h2 : within tail 0 ((n : Int) - 1)
  case false =>
    go_wp2
    generalize hW : (((w1.setCell _ _).setCell _ _).setCell _ _).setCell _ _ = w3
    obtain ⟨A3, bt⟩ := A0.set4 rfl hW
    have q0 := A3.cell 0 rfl
    have q1 := A3.cell 1 rfl
    have q2 := A3.cell 2 rfl
    have q3 := A3.cell 3 rfl
    obtain rfl : x = (default, 2) := by rw [← HX.out]; unfold readerOfShape; rw [← HN.out, H1.out, h2]; rfl
    exact bodyPost_ret (v := .tuple #[.agg #[.int .i64 0, .int .i64 0, .slice none 0 0, .slice none 0 0], .int .i64 2]) (by simp [results, Try.results8, go_sem, q0, q1, q2, q3]) rfl
      ⟨_, [], rfl, ow_Reader_zero _, List.nodup_nil, (fun b hb => by cases hb), B0.trans (bt.below (by simp) B0.size)⟩
  have ht3 := within_true.1 h2
  have H2 := Lib.hid h2; clear h2
  clear c0 c1 c2 c3 f0
  go_wp2_with fail
  refine (clone_bools _ takes B _ hS hR (by rw [← HN.out]; omega)).mono ?_
  rintro e w2 ⟨vc, fc, rfl, oc, nc, lc, b⟩
  obtain ⟨ca, cn, cc, rfl⟩ := ow_slice oc
  have s1 := A0.lt
  have LC : Hid (∀ x, x ∈ fc → w.heap.size < x) := Lib.hid (fun x hx => Nat.lt_of_lt_of_le s1 (lc x hx))
  replace A0 := A0.of b A0.lt
  replace B0 := B0.trans (b.mono B0.size)
  have z0 := A0.lt
  clear b hR hS
  go_wp2_with fail
  generalize hW : w2.alloc _ = w3
  obtain ⟨X0, b⟩ := blk1 hW
  clear hW
  replace A0 := A0.of b A0.lt
  replace B0 := B0.trans (b.mono B0.size)
  have HC := Lib.hid (boolsE.ow_lt oc)
  replace oc := boolsE.ow_of b oc
  clear b lc
  have NC := Lib.hid nc; clear nc
  go_loopw [27] (fun s wr => ∃ k : Nat, ∃ vn fn, k ≤ n ∧ s = .int .i64 k ∧ Below w.heap.size w wr ∧ Blk wr w.heap.size [.int .i64 0, .int .i64 0, .slice none 0 0, .slice none 0 0] 25 ∧
      Blk wr w2.heap.size [.int .i64 1, .int .i64 0, .slice ca cn cc, vn] 25 ∧ boolsE.ow wr [.slice ca cn cc] takes fc ∧ intssE.ow wr [vn] ((shapeNext tail n).take k) fn ∧ fn.Nodup ∧ Hid (∀ b, b ∈ fn → w2.heap.size < b)) (fun s _ => n - (intOf s).toNat)
  case atStart => exact ⟨0, .slice none 0 0, [], by omega, rfl, B0, A0, X0, oc, ow_nil _ _ _, List.nodup_nil, Lib.hid (fun b hb => by cases hb)⟩
  case round =>
    obtain ⟨k, vn, fn, hk, rfl, hB, hA, hX, hc, hn, nn, LN⟩ := hrel
    obtain ⟨na, nl, ncp, rfl⟩ := ow_slice hn
    by_cases hlt : k < n
    case neg =>
      obtain rfl : k = n := by omega
      have c0 := hX.cell 0 rfl
      have c1 := hX.cell 1 rfl
      have c2 := hX.cell 2 rfl
      have c3 := hX.cell 3 rfl
      have d0 := hA.cell 0 rfl
      have d1 := hA.cell 1 rfl
      have d2 := hA.cell 2 rfl
      have d3 := hA.cell 3 rfl
      have df := hA.free
      go_wp2
      generalize hW : (((wr.setCell _ _).setCell _ _).setCell _ _).setCell _ _ = w5
      obtain ⟨A3, bt⟩ := hA.set4 rfl hW
      have q0 := A3.cell 0 rfl
      have q1 := A3.cell 1 rfl
      have q2 := A3.cell 2 rfl
      have q3 := A3.cell 3 rfl
      have htk : (shapeNext tail k).take k = shapeNext tail k := List.take_of_length_le (by simp [shapeNext])
      rw [htk] at hn
      obtain rfl : x = (⟨1, 0, takes, shapeNext tail k⟩, 0) := by rw [← HX.out]; unfold readerOfShape; rw [← HN.out, H1.out, H2.out]; rfl
      have hg : ∀ b, b ∈ fc ++ fn → b ≠ w.heap.size ∧ w.heap.size ≤ b := by
        intro b hb
        rcases List.mem_append.1 hb with hb | hb
        · have := LC.out b hb; omega
        · have := LN.out b hb; omega
      refine bodyPost_ret (v := .tuple #[.agg #[.int .i64 1, .int .i64 0, .slice ca cn cc, .slice na nl ncp], .int .i64 0]) (by simp [results, Try.results8, go_sem, q0, q1, q2, q3]) rfl
        ⟨_, fc ++ fn, rfl, ?_, ?_, (fun b hb => (hg b hb).2), hB.trans (bt.below (by simp) hB.size)⟩
      · refine readE.ow_frame (w := wr) (fun b hb => bt.block b ?_ (by simpa using (hg b hb).1)) (ow_Reader (r := ⟨1, 0, takes, shapeNext tail k⟩) bd1 bd0 hc hn)
        rcases List.mem_append.1 hb with hb | hb
        · exact boolsE.ow_lt hc b hb
        · exact intssE.ow_lt hn b hb
      · rw [List.nodup_append]
        exact ⟨NC.out, nn, fun p hp q hq e => by have := HC.out p hp; have := LN.out q hq; omega⟩
    have hwk : IntKind.i64.wrap ((k : Int) + 1) = (k : Int) + 1 := IntWalk.i64_in _ ⟨by omega, by omega⟩
    have c3 := hX.cell 3 rfl
    obtain ⟨to, hto⟩ : ∃ to : Int, to = if k + 1 = n then tail else (k : Int) + 1 := ⟨_, rfl⟩
    have hst := shapeNext_take tail n k hlt
    rw [← hto] at hst
    have HST := Lib.hid hst; clear hst
    have hbt : -9223372036854775808 ≤ to ∧ to ≤ 9223372036854775807 := by rw [hto]; split <;> omega
    obtain ⟨W, hW⟩ : ∃ W, W = (wr.alloc (.cells #[.int .i64 to] 2)).alloc (.cells #[.slice (some ⟨wr.heap.size, 0, none⟩) 1 1] 34) := ⟨_, rfl⟩
    obtain ⟨hl1, hl2, hl3, hl4⟩ := lit_slice (E := intE) wr [to] (fun x => Value.int .i64 x) rfl (fun w x hx => by have e : x = to := by simpa using hx
                                                                                                                   subst e; exact ⟨⟨rfl, hbt⟩, rfl⟩) (by simp [maxLen]) hW
    have hXW := hX.of hl3 hX.lt
    have hAW := hA.of hl3 hA.lt
    have hBW := Lib.hid (hB.trans (hl3.mono hB.size))
    have hcW := boolsE.ow_of hl3 hc
    have hnW := intssE.ow_of hl3 hn
    have hfr := Lib.hid (intssE.ow_lt hn)
    have hd : ∀ b, b ∈ [wr.heap.size] → b ∉ fn := by intro b hb hb2; have := hfr.out b hb2; have : b = wr.heap.size := by simpa using hb
                                                     omega
    have hlen : ((shapeNext tail n).take k).length ≤ 1000000000000 := Nat.le_trans (List.length_take_le _ _) (by omega)
    have hcl := hc
    have hXl := hX.lt
    have HD := Lib.hid hd
    have HL := Lib.hid hl2
    have H4 := Lib.hid hl4
    clear hl2 hl4 hd hcl hX hA hB hc hn
    by_cases hnx : k + 1 = n
    all_goals
      first
        | (rw [if_pos hnx] at hto; have ht : (((k : Int) + 1) == (n : Int)) = true := by simp; omega)
        | (rw [if_neg hnx] at hto; have ht : (((k : Int) + 1) == (n : Int)) = false := by simp; omega)
      subst hto
      subst hW
      clear hnx
      go_wp2_with (at_builtin; refine app1_Int64SS rfl _ _ rfl rfl hnW nn rfl HL.out (one_mem rfl) hl1 (by simp) HD.out hlen ?_; intro vn' w' fn' k1 k2 k3 k4; obtain ⟨sa, sn, sc, rfl⟩ := ow_slice k1; have XB := hXW.but k4 (fun hb => by have := LN.out _ hb; omega); have y3 := XB.cell 3 rfl; have yf := XB.free 3; have K3 := Lib.hid k3; clear k3)
      go_roundw
      case measure => simp [intOf]; omega
      case rel =>
        have hlo : ∀ b, b ∈ fn → w2.heap.size < b := LN.out
        have hlo' : ∀ b, b ∈ fn' → w2.heap.size < b := by
          intro b hb
          rcases K3.out b hb with h | h | h
          · exact hlo b h
          · have : b = wr.heap.size := by simpa using h
            omega
          · have := H4.out; omega
        refine ⟨k + 1, _, fn', by omega, by go_num, ?_, ?_, XB.set 3 _, ?_, ?_, k2, Lib.hid hlo'⟩
        · exact (hBW.out.trans (k4.below (fun b hb => by have := hlo b hb; omega) hBW.out.size)).setCell (by simp; omega) _
        · exact (hAW.but k4 (fun hb => by have := hlo _ hb; omega)).other (by simp; omega) _
        · exact boolsE.ow_set (boolsE.ow_but hcW k4 (fun b hb hb2 => by have := HC.out b hb; have := hlo b hb2; omega)) (fun b hb => by have := HC.out b hb; simp; omega) _
        · rw [HST.out]; exact intssE.ow_set k1 (fun b hb => by have := hlo' b hb; simp; omega) _

set_option maxHeartbeats 1000000 in
theorem specReaderOfShape_is (x : Reader × Int) (tail : Int) (v : Value) (takes : List Bool) (B : Nat) (w : World) (hB0 : B ≤ w.heap.size) (ht : -9223372036854775808 ≤ tail ∧ tail ≤ 9223372036854775807) (h : boolsE.rd w B [v] takes) (hx : readerOfShape tail takes = x) :
    Calls Try.prog 6 #[.int .i64 tail, v] w (MakesC readE x w) := by
  have R := Lib.hid h
  obtain ⟨a, cap, rfl, l1, l2, -, e4⟩ := rd_bools h
  obtain ⟨n, hn⟩ : ∃ n, n = takes.length := ⟨_, rfl⟩
  rw [← hn] at l1 R ⊢
  have HN : Hid (n = takes.length) := Lib.hid hn
  have HX := Lib.hid hx
  clear h hx hn e4
  go_enter Try.func6, Try.ntmps6
  go_wp2_with fail
  generalize hW : w.alloc _ = w1
  obtain ⟨A0, B0⟩ := blk1 hW
  clear hW
  have hR : (boolsE).rd w1 B [.slice a n cap] takes := boolsE.rd_of (B0.mono hB0) R.out
  have hS : B ≤ w1.heap.size := Nat.le_trans hB0 B0.size
  refine (l00In_k _ _ _ _).mono ?_
  rintro e w2 ⟨rfl, rfl⟩
  have c0 := A0.cell 0 rfl
  have c1 := A0.cell 1 rfl
  have c2 := A0.cell 2 rfl
  have c3 := A0.cell 3 rfl
  have f0 := A0.free
  cases h1 : within (n : Int) 1 300
  case false =>
    go_wp2
    generalize hW : (((w1.setCell _ _).setCell _ _).setCell _ _).setCell _ _ = w3
    obtain ⟨A3, bt⟩ := A0.set4 rfl hW
    have q0 := A3.cell 0 rfl
    have q1 := A3.cell 1 rfl
    have q2 := A3.cell 2 rfl
    have q3 := A3.cell 3 rfl
    obtain rfl : x = (default, 2) := by rw [← HX.out]; unfold readerOfShape; rw [← HN.out, h1]; rfl
    exact bodyPost_ret (v := .tuple #[.agg #[.int .i64 0, .int .i64 0, .slice none 0 0, .slice none 0 0], .int .i64 2]) (by simp [results, Try.results6, go_sem, q0, q1, q2, q3]) rfl
      ⟨_, [], rfl, ow_Reader_zero _, List.nodup_nil, (fun b hb => by cases hb), B0.trans (bt.below (by simp) B0.size)⟩
  have hn3 := within_true.1 h1
  have hw : IntKind.i64.wrap ((n : Int) - 1) = (n : Int) - 1 := IntWalk.i64_in _ ⟨by omega, by omega⟩
  have H1 := Lib.hid h1; clear h1
  go_wp2_with fail
  refine (l00In_k _ _ _ _).mono ?_
  rintro e w2 ⟨rfl, rfl⟩
  cases h2 : within tail 0 ((n : Int) - 1)
  case false =>
    go_wp2
    generalize hW : (((w1.setCell _ _).setCell _ _).setCell _ _).setCell _ _ = w3
    obtain ⟨A3, bt⟩ := A0.set4 rfl hW
    have q0 := A3.cell 0 rfl
    have q1 := A3.cell 1 rfl
    have q2 := A3.cell 2 rfl
    have q3 := A3.cell 3 rfl
    obtain rfl : x = (default, 2) := by rw [← HX.out]; unfold readerOfShape; rw [← HN.out, H1.out, h2]; rfl
    exact bodyPost_ret (v := .tuple #[.agg #[.int .i64 0, .int .i64 0, .slice none 0 0, .slice none 0 0], .int .i64 2]) (by simp [results, Try.results6, go_sem, q0, q1, q2, q3]) rfl
      ⟨_, [], rfl, ow_Reader_zero _, List.nodup_nil, (fun b hb => by cases hb), B0.trans (bt.below (by simp) B0.size)⟩
  have ht3 := within_true.1 h2
  have H2 := Lib.hid h2; clear h2
  clear c0 c1 c2 c3 f0
  obtain ⟨W, hW⟩ : ∃ W, W = w1.alloc (.cells #[] 4) := ⟨_, rfl⟩
  have hb : Below w1.heap.size w1 W := hW ▸ ((Below.refl _ w1).alloc (Nat.le_refl _) _)
  have hown : boolsE.ow W [.slice (some ⟨w1.heap.size, 0, none⟩) 0 0] [] [w1.heap.size] := ow_lit (E := boolE) (l := []) (fun _ => undef) rfl (fun x hx => by cases hx) (hW ▸ Blk.new w1 #[] 4) (Nat.zero_le _)
  obtain ⟨css, fys, hys, hf, hs⟩ := src_bools (boolsE.rd_of (hb.mono hS) hR)
  rw [← HN.out] at hs
  have hd : ([w1.heap.size] ++ fys.flatten).Nodup := by rw [hf]; simp
  have HF := Lib.hid hf
  have hl' : ([] : List Bool).length + takes.length ≤ 1000000000000 := by rw [← HN.out]; simp; omega
  have AW := A0.of hb A0.lt
  have BW := Lib.hid (B0.trans (hb.mono B0.size))
  have hsz := hb.size
  have hlW := Lib.hid (show W.heap.size = w1.heap.size + 1 by rw [hW]; simp)
  subst hW
  clear hf hb hR hS
  go_wp2_with (first | (at_builtin; refine appS_BoolS rfl _ _ rfl rfl hown hys (HN.out ▸ hs) hd hl' ?_; intro vc' w2 fc oc nc lc0 bt; obtain ⟨ca, cn, cc, rfl⟩ := ow_slice oc) | fail)
  rw [List.nil_append] at oc
  have s1 := AW.lt
  have hw1s : w.heap.size < w1.heap.size := A0.lt
  have LC : Hid (∀ x, x ∈ fc → w.heap.size < x) := Lib.hid (fun x hx => by
    rcases lc0 x hx with h | h | h
    · have : x = w1.heap.size := by simpa using h
      omega
    · rw [HF.out] at h; cases h
    · have := hlW.out; omega)
  have A0 := AW.but bt (fun hb => by have : w.heap.size = w1.heap.size := by simpa using hb
                                     omega)
  have B0 := BW.out.trans (bt.below (B := w.heap.size) (fun b hb => by have : b = w1.heap.size := by simpa using hb
                                                                       omega) BW.out.size)
  have z0 := A0.lt
  clear bt lc0 AW BW
  generalize hW : w2.alloc _ = w3
  obtain ⟨X0, b⟩ := blk1 hW
  clear hW
  replace A0 := A0.of b A0.lt
  replace B0 := B0.trans (b.mono B0.size)
  have HC := Lib.hid (boolsE.ow_lt oc)
  replace oc := boolsE.ow_of b oc
  clear b
  have NC := Lib.hid nc; clear nc
  go_loopw [8] (fun s wr => ∃ k : Nat, ∃ vn fn, k ≤ n ∧ s = .int .i64 k ∧ Below w.heap.size w wr ∧ Blk wr w.heap.size [.int .i64 0, .int .i64 0, .slice none 0 0, .slice none 0 0] 25 ∧
      Blk wr w2.heap.size [.int .i64 1, .int .i64 0, .slice ca cn cc, vn] 25 ∧ boolsE.ow wr [.slice ca cn cc] takes fc ∧ intssE.ow wr [vn] ((shapeNext tail n).take k) fn ∧ fn.Nodup ∧ Hid (∀ b, b ∈ fn → w2.heap.size < b)) (fun s _ => n - (intOf s).toNat)
  case atStart => exact ⟨0, .slice none 0 0, [], by omega, rfl, B0, A0, X0, oc, ow_nil _ _ _, List.nodup_nil, Lib.hid (fun b hb => by cases hb)⟩
  case round =>
    obtain ⟨k, vn, fn, hk, rfl, hB, hA, hX, hc, hn, nn, LN⟩ := hrel
    obtain ⟨na, nl, ncp, rfl⟩ := ow_slice hn
    by_cases hlt : k < n
    case neg =>
      obtain rfl : k = n := by omega
      have c0 := hX.cell 0 rfl
      have c1 := hX.cell 1 rfl
      have c2 := hX.cell 2 rfl
      have c3 := hX.cell 3 rfl
      have d0 := hA.cell 0 rfl
      have d1 := hA.cell 1 rfl
      have d2 := hA.cell 2 rfl
      have d3 := hA.cell 3 rfl
      have df := hA.free
      go_wp2
      generalize hW : (((wr.setCell _ _).setCell _ _).setCell _ _).setCell _ _ = w5
      obtain ⟨A3, bt⟩ := hA.set4 rfl hW
      have q0 := A3.cell 0 rfl
      have q1 := A3.cell 1 rfl
      have q2 := A3.cell 2 rfl
      have q3 := A3.cell 3 rfl
      have htk : (shapeNext tail k).take k = shapeNext tail k := List.take_of_length_le (by simp [shapeNext])
      rw [htk] at hn
      obtain rfl : x = (⟨1, 0, takes, shapeNext tail k⟩, 0) := by rw [← HX.out]; unfold readerOfShape; rw [← HN.out, H1.out, H2.out]; rfl
      have hg : ∀ b, b ∈ fc ++ fn → b ≠ w.heap.size ∧ w.heap.size ≤ b := by
        intro b hb
        rcases List.mem_append.1 hb with hb | hb
        · have := LC.out b hb; omega
        · have := LN.out b hb; omega
      refine bodyPost_ret (v := .tuple #[.agg #[.int .i64 1, .int .i64 0, .slice ca cn cc, .slice na nl ncp], .int .i64 0]) (by simp [results, Try.results6, go_sem, q0, q1, q2, q3]) rfl
        ⟨_, fc ++ fn, rfl, ?_, ?_, (fun b hb => (hg b hb).2), hB.trans (bt.below (by simp) hB.size)⟩
      · refine readE.ow_frame (w := wr) (fun b hb => bt.block b ?_ (by simpa using (hg b hb).1)) (ow_Reader (r := ⟨1, 0, takes, shapeNext tail k⟩) bd1 bd0 hc hn)
        rcases List.mem_append.1 hb with hb | hb
        · exact boolsE.ow_lt hc b hb
        · exact intssE.ow_lt hn b hb
      · rw [List.nodup_append]
        exact ⟨NC.out, nn, fun p hp q hq e => by have := HC.out p hp; have := LN.out q hq; omega⟩
    have hwk : IntKind.i64.wrap ((k : Int) + 1) = (k : Int) + 1 := IntWalk.i64_in _ ⟨by omega, by omega⟩
    have c3 := hX.cell 3 rfl
    obtain ⟨to, hto⟩ : ∃ to : Int, to = if k + 1 = n then tail else (k : Int) + 1 := ⟨_, rfl⟩
    have hst := shapeNext_take tail n k hlt
    rw [← hto] at hst
    have HST := Lib.hid hst; clear hst
    have hbt : -9223372036854775808 ≤ to ∧ to ≤ 9223372036854775807 := by rw [hto]; split <;> omega
    obtain ⟨W, hW⟩ : ∃ W, W = (wr.alloc (.cells #[.int .i64 to] 2)).alloc (.cells #[.slice (some ⟨wr.heap.size, 0, none⟩) 1 1] 34) := ⟨_, rfl⟩
    obtain ⟨hl1, hl2, hl3, hl4⟩ := lit_slice (E := intE) wr [to] (fun x => Value.int .i64 x) rfl (fun w x hx => by have e : x = to := by simpa using hx
                                                                                                                   subst e; exact ⟨⟨rfl, hbt⟩, rfl⟩) (by simp [maxLen]) hW
    have hXW := hX.of hl3 hX.lt
    have hAW := hA.of hl3 hA.lt
    have hBW := Lib.hid (hB.trans (hl3.mono hB.size))
    have hcW := boolsE.ow_of hl3 hc
    have hnW := intssE.ow_of hl3 hn
    have hfr := Lib.hid (intssE.ow_lt hn)
    have hd : ∀ b, b ∈ [wr.heap.size] → b ∉ fn := by intro b hb hb2; have := hfr.out b hb2; have : b = wr.heap.size := by simpa using hb
                                                     omega
    have hlen : ((shapeNext tail n).take k).length ≤ 1000000000000 := Nat.le_trans (List.length_take_le _ _) (by omega)
    have hcl := hc
    have hXl := hX.lt
    have HD := Lib.hid hd
    have HL := Lib.hid hl2
    have H4 := Lib.hid hl4
    clear hl2 hl4 hd hcl hX hA hB hc hn
    by_cases hnx : k + 1 = n
    all_goals
      first
        | (rw [if_pos hnx] at hto; have ht : (((k : Int) + 1) == (n : Int)) = true := by simp; omega)
        | (rw [if_neg hnx] at hto; have ht : (((k : Int) + 1) == (n : Int)) = false := by simp; omega)
      subst hto
      subst hW
      clear hnx
      go_wp2_with (at_builtin; refine app1_Int64SS rfl _ _ rfl rfl hnW nn rfl HL.out (one_mem rfl) hl1 (by simp) HD.out hlen ?_; intro vn' w' fn' k1 k2 k3 k4; obtain ⟨sa, sn, sc, rfl⟩ := ow_slice k1; have XB := hXW.but k4 (fun hb => by have := LN.out _ hb; omega); have y3 := XB.cell 3 rfl; have yf := XB.free 3; have K3 := Lib.hid k3; clear k3)
      go_roundw
      case measure => simp [intOf]; omega
      case rel =>
        have hlo : ∀ b, b ∈ fn → w2.heap.size < b := LN.out
        have hlo' : ∀ b, b ∈ fn' → w2.heap.size < b := by
          intro b hb
          rcases K3.out b hb with h | h | h
          · exact hlo b h
          · have : b = wr.heap.size := by simpa using h
            omega
          · have := H4.out; omega
        refine ⟨k + 1, _, fn', by omega, by go_num, ?_, ?_, XB.set 3 _, ?_, ?_, k2, Lib.hid hlo'⟩
        · exact (hBW.out.trans (k4.below (fun b hb => by have := hlo b hb; omega) hBW.out.size)).setCell (by simp; omega) _
        · exact (hAW.but k4 (fun hb => by have := hlo _ hb; omega)).other (by simp; omega) _
        · exact boolsE.ow_set (boolsE.ow_but hcW k4 (fun b hb hb2 => by have := HC.out b hb; have := hlo b hb2; omega)) (fun b hb => by have := HC.out b hb; simp; omega) _
        · rw [HST.out]; exact intssE.ow_set k1 (fun b hb => by have := hlo' b hb; simp; omega) _

end Go.Proofs.Ytipandcflcidlaa
