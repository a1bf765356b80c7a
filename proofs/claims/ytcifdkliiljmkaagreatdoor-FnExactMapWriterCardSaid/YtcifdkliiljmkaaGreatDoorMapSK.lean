/-
  MapWriter of the reference.
-/
import Derived.Test.YtcifdkliiljmkaaGreatDoorMapOK
import Derived.Test.YtcifdkliiljmkaaGreatDoorRepSK
import Derived.Test.YtcifdkliiljmkaaGreatDoorOwnTextsK
import Derived.Test.YtcifdkliiljmkaaGreatDoorL02CopyK
namespace Go.Proofs.YtcifdkliiljmkaaGreatDoor
open Go.RowKit Go.PlainAid

theorem size_mk (l : List UInt8) : (⟨l.toArray⟩ : ByteArray).size = l.length := by simp [ByteArray.size]

theorem abc_casesM {c : UInt8} (h : ([97, 98, 99] : List UInt8).contains c = true) : c = 97 ∨ c = 98 ∨ c = 99 := by simpa using h

theorem cell_app {α : Type} (A Z : List α) (X : α) (s : Nat) (h : A.length = s) : (A ++ X :: Z)[s]? = some X := by
  rw [List.getElem?_append_right (by omega), h, Nat.sub_self]; rfl
theorem set_app {α : Type} (A Z : List α) (X Y : α) (s : Nat) (h : A.length = s) : (A ++ X :: Z).set s Y = A ++ Y :: Z := by
  rw [List.set_append_right _ _ (by omega), h, Nat.sub_self]; rfl
theorem mixt_get (f : ByteArray → ByteArray) (l : List ByteArray) (k : Nat) (h : k < l.length) : ((l.take k).map f ++ l.drop k)[k]? = some (l[k]?.getD ByteArray.empty) := by
  have := mix_get f id l k h
  simp only [List.map_id] at this
  rw [this, List.getElem?_eq_getElem h]; rfl
theorem mixt_set (f : ByteArray → ByteArray) (l : List ByteArray) (k : Nat) (h : k < l.length) : ((l.take k).map f ++ l.drop k).set k (f (l[k]?.getD ByteArray.empty)) = (l.take (k + 1)).map f ++ l.drop (k + 1) := by
  have := mix_set f id l k h
  simp only [List.map_id] at this
  rw [← this, List.getElem?_eq_getElem h]; rfl
theorem mixt_len (f : ByteArray → ByteArray) (l : List ByteArray) (k : Nat) : ((l.take k).map f ++ l.drop k).length = l.length := by
  rw [List.length_append, List.length_map, List.length_take, List.length_drop]; omega
theorem mapL_take (ws : List ByteArray) (l : List UInt8) (i : Nat) (h : i < l.length) : mapL ws (l.take (i + 1)) = mapL ws (l.take i) ++ (ws.getD ((l.getD i 0).toNat - 97) ByteArray.empty).data.toList := fm_take (fun c => (ws.getD (c.toNat - 97) ByteArray.empty).data.toList) l i h
theorem mk_app (A : List UInt8) (t : ByteArray) : (⟨A.toArray⟩ : ByteArray) ++ t = ⟨(A ++ t.data.toList).toArray⟩ := by
  apply ByteArray.ext
  simp [ByteArray.data_append]

set_option maxHeartbeats 16000000 in
set_option maxRecDepth 100000 in
theorem specMap_is (x : Writer × Int) (cs : List Value) (r : Writer) (v1 : Value) (ws : List ByteArray) (B : Nat) (w : World) (hB0 : B ≤ w.heap.size) (h : writE.rd w B cs r) (h1 : strsE.rd w B [v1] ws) (hx : mapWriter r ws = x) :
    Calls Tryz.prog 19 #[.agg cs.toArray, v1] w (MakesC writE x w) := by
  have HX := Lib.hid hx
  obtain ⟨v2, v3, rfl, b0, b1, h2, h3⟩ := rd_WriterF h
  have R2 := Lib.hid h2; have R3 := Lib.hid h3
  obtain ⟨ta, tn, tc, rfl⟩ := rd_slice h2
  obtain ⟨oa, om, oc, rfl⟩ := rd_slice h3
  obtain ⟨ja, jc, rfl, -, -, -, j4⟩ := rd_strs h1
  obtain ⟨n, hn⟩ : ∃ n, n = ws.length := ⟨_, rfl⟩
  rw [← hn] at j4 ⊢
  have HN := Lib.hid hn; have J4 := Lib.hid j4
  clear h h1 h2 h3 hx hn j4
  have S := ((Star.nil w).alloc (cs := #[.int .i64 r.turner.letters, .int .i64 r.turner.start, .slice ta tn tc, .slice oa om oc]) (ty := 40)).alloc (cs := #[.int .i64 0, .int .i64 0, .slice none 0 0, .slice none 0 0]) (ty := 40)
  rw [World.size_alloc] at S
  go_enter Tryz.func19, Tryz.ntmps19
  go_wp2_with fail
  generalize hW : (w.alloc _).alloc _ = w0 at S ⊢
  clear hW
  obtain ⟨gz, hgz⟩ : ∃ g, g = w.heap.size + 1 := ⟨_, rfl⟩
  obtain ⟨gx, hgx⟩ : ∃ g, g = w.heap.size := ⟨_, rfl⟩
  rw [← hgz, ← hgx] at S ⊢
  clear hgz hgx
  have BW := S.below
  cases hv : writerOk r
  case false =>
    refine (l07Ok_is false _ _ r B gx w0 (Nat.le_trans hB0 BW.size) (S.blk 1 rfl) (movessE.rd_of (BW.mono hB0) R2.out) (strssE.rd_of (BW.mono hB0) R3.out) hv).mono ?_
    rintro e w1 ⟨rfl, b⟩
    replace S := S.step b
    have HV := Lib.hid hv
    clear b BW hv
    have R0 := S.blk 0 rfl
    have c0 := R0.cell 0 rfl
    have c1 := R0.cell 1 rfl
    have c2 := R0.cell 2 rfl
    have c3 := R0.cell 3 rfl
    have f0 := R0.free
    go_wp2
    generalize hW : (((w1.setCell _ _).setCell _ _).setCell _ _).setCell _ _ = w9
    replace S := S.set4 rfl hW
    have A3 := S.blk 0 rfl
    have q0 := A3.cell 0 rfl
    have q1 := A3.cell 1 rfl
    have q2 := A3.cell 2 rfl
    have q3 := A3.cell 3 rfl
    obtain rfl : x = (default, 1) := by rw [← HX.out]; unfold mapWriter; rw [HV.out]; rfl
    exact bodyPost_ret (v := .tuple #[.agg #[.int .i64 0, .int .i64 0, .slice none 0 0, .slice none 0 0], .int .i64 1]) (by simp [results, Tryz.results19, go_sem, q0, q1, q2, q3]) rfl (S.flat (ow_Writer_zero _)).done
  refine (l07Ok_is true _ _ r B gx w0 (Nat.le_trans hB0 BW.size) (S.blk 1 rfl) (movessE.rd_of (BW.mono hB0) R2.out) (strssE.rd_of (BW.mono hB0) R3.out) hv).mono ?_
  rintro e w1 ⟨rfl, b⟩
  replace S := S.step b
  have K := writOk_of hv
  have HV := Lib.hid hv
  have HK := Lib.hid K
  clear b BW hv K
  by_cases hn3 : n = 3
  case neg =>
    have t1 : ((n : Int) != 3) = true := by simp; omega
    have R0 := S.blk 0 rfl
    have c0 := R0.cell 0 rfl
    have c1 := R0.cell 1 rfl
    have c2 := R0.cell 2 rfl
    have c3 := R0.cell 3 rfl
    have f0 := R0.free
    go_wp2
    generalize hW : (((w1.setCell _ _).setCell _ _).setCell _ _).setCell _ _ = w9
    replace S := S.set4 rfl hW
    have A3 := S.blk 0 rfl
    have q0 := A3.cell 0 rfl
    have q1 := A3.cell 1 rfl
    have q2 := A3.cell 2 rfl
    have q3 := A3.cell 3 rfl
    obtain rfl : x = (default, 1) := by rw [← HX.out]; unfold mapWriter; rw [HV.out, decide_eq_false (by rw [← HN.out]; exact hn3)]; rfl
    exact bodyPost_ret (v := .tuple #[.agg #[.int .i64 0, .int .i64 0, .slice none 0 0, .slice none 0 0], .int .i64 1]) (by simp [results, Tryz.results19, go_sem, q0, q1, q2, q3]) rfl (S.flat (ow_Writer_zero _)).done
  subst hn3
  obtain ⟨a, b, c, rfl⟩ : ∃ a b c, ws = [a, b, c] := by
    match ws, HN.out with
    | [a, b, c], _ => exact ⟨a, b, c, rfl⟩
  obtain ⟨jb, jo, rfl, hjb, c0, sa⟩ := J4.out 0 (by simp)
  obtain ⟨jb', jo', e1, -, c1, sb⟩ := J4.out 1 (by simp)
  obtain ⟨jb'', jo'', e2, -, c2, sc⟩ := J4.out 2 (by simp)
  cases e1
  cases e2
  replace c0 : w.cell? ⟨jb, jo, none⟩ = some (.string a) := c0
  replace c1 : w.cell? ⟨jb, jo + 1, none⟩ = some (.string b) := c1
  replace c2 : w.cell? ⟨jb, jo + 2, none⟩ = some (.string c) := c2
  replace sa : a.size ≤ maxLen := sa
  replace sb : b.size ≤ maxLen := sb
  replace sc : c.size ≤ maxLen := sc
  have hjw : jb < w.heap.size := Nat.lt_of_lt_of_le hjb hB0
  have d0 := (S.below.cell hjw).trans c0
  have d1 := (S.below.cell hjw).trans c1
  have d2 := (S.below.cell hjw).trans c2
  clear J4 HN
  go_wp2_with fail
  cases hoa : outOk a
  case false =>
    refine (l07Text_is false a _ hoa sa).mono ?_
    rintro e w2 ⟨rfl, hw⟩
    subst hw
    have HO := Lib.hid hoa
    clear hoa d0 d1 d2 c0 c1 c2
    have R0 := S.blk 0 rfl
    have c0 := R0.cell 0 rfl
    have c1 := R0.cell 1 rfl
    have c2 := R0.cell 2 rfl
    have c3 := R0.cell 3 rfl
    have f0 := R0.free
    go_wp2
    generalize hW : (((w1.setCell _ _).setCell _ _).setCell _ _).setCell _ _ = w9
    replace S := S.set4 rfl hW
    have A3 := S.blk 0 rfl
    have q0 := A3.cell 0 rfl
    have q1 := A3.cell 1 rfl
    have q2 := A3.cell 2 rfl
    have q3 := A3.cell 3 rfl
    obtain rfl : x = (default, 1) := by rw [← HX.out]; unfold mapWriter; rw [HV.out]; simp [HO.out]
    exact bodyPost_ret (v := .tuple #[.agg #[.int .i64 0, .int .i64 0, .slice none 0 0, .slice none 0 0], .int .i64 1]) (by simp [results, Tryz.results19, go_sem, q0, q1, q2, q3]) rfl (S.flat (ow_Writer_zero _)).done
  refine (l07Text_is true a _ hoa sa).mono ?_
  rintro e w2 ⟨rfl, hw⟩
  subst hw
  have Ha := Lib.hid hoa
  clear hoa
  go_wp2_with fail
  cases hob : outOk b
  case false =>
    refine (l07Text_is false b _ hob sb).mono ?_
    rintro e w2 ⟨rfl, hw⟩
    subst hw
    have HO := Lib.hid hob
    clear hob d0 d1 d2 c0 c1 c2
    have R0 := S.blk 0 rfl
    have c0 := R0.cell 0 rfl
    have c1 := R0.cell 1 rfl
    have c2 := R0.cell 2 rfl
    have c3 := R0.cell 3 rfl
    have f0 := R0.free
    go_wp2
    generalize hW : (((w1.setCell _ _).setCell _ _).setCell _ _).setCell _ _ = w9
    replace S := S.set4 rfl hW
    have A3 := S.blk 0 rfl
    have q0 := A3.cell 0 rfl
    have q1 := A3.cell 1 rfl
    have q2 := A3.cell 2 rfl
    have q3 := A3.cell 3 rfl
    obtain rfl : x = (default, 1) := by rw [← HX.out]; unfold mapWriter; rw [HV.out]; simp [HO.out]
    exact bodyPost_ret (v := .tuple #[.agg #[.int .i64 0, .int .i64 0, .slice none 0 0, .slice none 0 0], .int .i64 1]) (by simp [results, Tryz.results19, go_sem, q0, q1, q2, q3]) rfl (S.flat (ow_Writer_zero _)).done
  refine (l07Text_is true b _ hob sb).mono ?_
  rintro e w2 ⟨rfl, hw⟩
  subst hw
  have Hb := Lib.hid hob
  clear hob
  go_wp2_with fail
  cases hoc : outOk c
  case false =>
    refine (l07Text_is false c _ hoc sc).mono ?_
    rintro e w2 ⟨rfl, hw⟩
    subst hw
    have HO := Lib.hid hoc
    clear hoc d0 d1 d2 c0 c1 c2
    have R0 := S.blk 0 rfl
    have c0 := R0.cell 0 rfl
    have c1 := R0.cell 1 rfl
    have c2 := R0.cell 2 rfl
    have c3 := R0.cell 3 rfl
    have f0 := R0.free
    go_wp2
    generalize hW : (((w1.setCell _ _).setCell _ _).setCell _ _).setCell _ _ = w9
    replace S := S.set4 rfl hW
    have A3 := S.blk 0 rfl
    have q0 := A3.cell 0 rfl
    have q1 := A3.cell 1 rfl
    have q2 := A3.cell 2 rfl
    have q3 := A3.cell 3 rfl
    obtain rfl : x = (default, 1) := by rw [← HX.out]; unfold mapWriter; rw [HV.out]; simp [HO.out]
    exact bodyPost_ret (v := .tuple #[.agg #[.int .i64 0, .int .i64 0, .slice none 0 0, .slice none 0 0], .int .i64 1]) (by simp [results, Tryz.results19, go_sem, q0, q1, q2, q3]) rfl (S.flat (ow_Writer_zero _)).done
  refine (l07Text_is true c _ hoc sc).mono ?_
  rintro e w2 ⟨rfl, hw⟩
  subst hw
  have Hc := Lib.hid hoc
  clear hoc
  have HX2 : Hid (x = if writerOk (mapW r [a, b, c]) then (mapW r [a, b, c], 0) else (default, 3)) := Lib.hid (by
    rw [← HX.out]; unfold mapWriter; rw [HV.out]; simp only [List.all_cons, List.all_nil, Ha.out, Hb.out, Hc.out]; rfl)
  have sa3 := out_size Ha.out
  have sb3 := out_size Hb.out
  have sc3 := out_size Hc.out
  clear HX sa sb sc
  obtain ⟨m, hm⟩ : ∃ m, m = r.out.length := ⟨_, rfl⟩
  have HM := Lib.hid hm
  have hm12 : m ≤ 12 := by rw [hm, HK.out.n]; exact HK.out.t.n12
  have hm0 : 0 < m := by rw [hm, HK.out.n]; exact HK.out.t.n1
  clear hm
  have BW := S.below
  have hB1 := Nat.le_trans hB0 BW.size
  have x3 := (S.blk 1 rfl).cell 3 rfl
  clear d0 d1 d2
  go_wp2_with fail
  refine (l07Texts_any _ r.out B w1 hB1 (strssE.rd_of (BW.mono hB0) R3.out) (by rw [← HM.out]; omega) (fun y hy => by have := HK.out.len hy; omega)).mono ?_
  rintro e w2 ⟨ve, fe, rfl, oe, ne, lo, be⟩
  obtain ⟨la, ln, lc, rfl⟩ := ow_slice oe
  replace S := S.made oe ne lo be
  clear oe ne lo be x3 BW hB1
  obtain ⟨og, ol, hv, -, -, -, -⟩ := S.rows 0 rfl (by rw [← HM.out]; exact hm0)
  rw [← HM.out] at hv
  simp only [Value.slice.injEq] at hv
  obtain ⟨rfl, rfl, rfl⟩ := hv
  obtain ⟨mt, hmt⟩ : ∃ f, f = mapText [a, b, c] := ⟨_, rfl⟩
  have HMT := Lib.hid hmt
  clear hmt
  have S0 : Star w w2 [oE strssE [.slice (some ⟨og, 0, none⟩) ln lc] ((r.out.take 0).map (List.map mt) ++ r.out.drop 0), oB gz [.int .i64 0, .int .i64 0, .slice none 0 0, .slice none 0 0] 40, oB gx [.int .i64 r.turner.letters, .int .i64 r.turner.start, .slice ta tn tc, .slice oa om oc] 40] := S
  clear S
  go_wp2
  go_loopw [7] (fun q wr => ∃ (s : Nat), s ≤ ln ∧ q = .int .i64 s ∧ Star w wr [oE strssE [.slice (some ⟨og, 0, none⟩) ln lc] ((r.out.take s).map (List.map mt) ++ r.out.drop s), oB gz [.int .i64 0, .int .i64 0, .slice none 0 0, .slice none 0 0] 40, oB gx [.int .i64 r.turner.letters, .int .i64 r.turner.start, .slice ta tn tc, .slice oa om oc] 40]) (fun q _ => ln - (intOf q).toNat)
  case atStart => exact ⟨0, by omega, rfl, S0⟩
  case round =>
    clear S0
    obtain ⟨s, hs, rfl, S⟩ := hrel
    by_cases hlt : s < ln
    case neg =>
      obtain rfl : s = ln := by omega
      rw [List.take_of_length_le (by rw [HM.out]; exact Nat.le_refl _), List.drop_of_length_le (by rw [HM.out]; exact Nat.le_refl _), List.append_nil, HMT.out] at S
      have BW := S.below
      have HH := Lib.hid (Hd.left (c1 := [.int .i64 r.turner.letters, .int .i64 r.turner.start, .slice ta tn tc]) (c2 := [.slice oa om oc]) (S.blk 2 rfl).hd)
      have HCP := Lib.hid (l02Copy_any r.turner r.turner B gx wr (Nat.le_trans hB0 BW.size) HH.out (movessE.rd_of (BW.mono hB0) R2.out) HK.out.v rfl)
      clear BW HH
      go_wp2_with fail
      refine HCP.out.mono ?_
      rintro e w11 ⟨cs, fp, rfl, o, nd, lo, b11⟩
      obtain ⟨v5, rfl, -, -, o5⟩ := rd_Turner (Enc.rd_ow _ o)
      obtain ⟨ua, un, uc, rfl⟩ := rd_slice o5
      replace S := (S.made o nd lo b11).moves
      clear o5 o nd lo b11 HCP
      have HRD := Lib.hid (show writE.rd w11 w11.heap.size [.int .i64 r.turner.letters, .int .i64 r.turner.start, .slice ua un uc, .slice (some ⟨og, 0, none⟩) s lc] (mapW r [a, b, c]) from rd_writE (r := mapW r [a, b, c]) (S.rd 0 rfl) (S.rd 1 rfl) b0 b1)
      obtain ⟨y, hy⟩ : ∃ y, y = mapW r [a, b, c] := ⟨_, rfl⟩
      rw [← hy] at HX2 HRD
      have HY := Lib.hid hy
      clear hy
      cases hv : writerOk y
      case false =>
        obtain rfl : x = (default, 3) := by rw [HX2.out, hv]; rfl
        have HV2 := Lib.hid hv
        clear hv HX2
        go_wp2_with fail
        refine (told_no _ y _ w11 (Nat.le_refl _) HRD.out HV2.out).mono ?_
        rintro e w12 ⟨rfl, b12⟩
        replace S := S.step b12
        have A0 := S.blk 2 rfl
        have d0 := A0.cell 0 rfl
        have d1 := A0.cell 1 rfl
        have d2 := A0.cell 2 rfl
        have d3 := A0.cell 3 rfl
        have df := A0.free
        go_wp2
        generalize hW : (((w12.setCell _ _).setCell _ _).setCell _ _).setCell _ _ = w13
        have S10 := (S.sel [2]).set4 rfl hW
        have A3 := S10.blk 0 rfl
        have q0 := A3.cell 0 rfl
        have q1 := A3.cell 1 rfl
        have q2 := A3.cell 2 rfl
        have q3 := A3.cell 3 rfl
        exact bodyPost_ret (v := .tuple #[.agg #[.int .i64 0, .int .i64 0, .slice none 0 0, .slice none 0 0], .int .i64 3]) (by simp [results, Tryz.results19, go_sem, q0, q1, q2, q3]) rfl (S10.flat (ow_Writer_zero _)).done
      case true =>
        obtain rfl : x = (y, 0) := by rw [HX2.out, hv]; rfl
        have HV2 := Lib.hid hv
        clear hv HX2
        go_wp2_with fail
        refine (told_yes _ y _ w11 (Nat.le_refl _) HRD.out HV2.out).mono ?_
        rintro e w12 ⟨rfl, b12⟩
        replace S := S.step b12
        have A0 := S.blk 2 rfl
        have d0 := A0.cell 0 rfl
        have d1 := A0.cell 1 rfl
        have d2 := A0.cell 2 rfl
        have d3 := A0.cell 3 rfl
        have df := A0.free
        go_wp2
        generalize hW : (((w12.setCell _ _).setCell _ _).setCell _ _).setCell _ _ = w13
        have S10 := (S.sel [2, 0, 1]).set4 rfl hW
        have A3 := S10.blk 0 rfl
        have q0 := A3.cell 0 rfl
        have q1 := A3.cell 1 rfl
        have q2 := A3.cell 2 rfl
        have q3 := A3.cell 3 rfl
        obtain rfl := HY.out
        exact bodyPost_ret (v := .tuple #[.agg #[.int .i64 r.turner.letters, .int .i64 r.turner.start, .slice ua un uc, .slice (some ⟨og, 0, none⟩) s lc], .int .i64 0]) (by simp [results, Tryz.results19, go_sem, q0, q1, q2, q3]) rfl (writ_doneM (x := mapW r [a, b, c]) (S10.sel [1, 2]) b0 b1)
    have hso : s < r.out.length := by rw [← HM.out]; exact hlt
    obtain ⟨row, hrow⟩ : ∃ y, y = r.out[s]?.getD default := ⟨_, rfl⟩
    have hmem := mem_getD (l := r.out) (k := s) hso
    have hr5 : (r.out[s]?.getD default).length ≤ 5 := HK.out.len hmem
    have hrok : ∀ t, t ∈ r.out[s]?.getD default → outOk t = true := (HK.out.row s hso).2
    have hds : r.out.drop s = row :: r.out.drop (s + 1) := by rw [List.drop_eq_getElem_cons hso, hrow, List.getElem?_eq_getElem hso]; rfl
    have hts : (r.out.take (s + 1)).map (List.map mt) = (r.out.take s).map (List.map mt) ++ [row.map mt] := by
      rw [List.take_succ_eq_append_getElem hso, List.map_append, hrow, List.getElem?_eq_getElem hso]; rfl
    have hr1 : 1 ≤ (r.out[s]?.getD default).length := by
      rw [(HK.out.row s hso).1]
      have h1 := (HK.out.t.row _ (mem_getD (l := r.turner.moves) (k := s) (by rw [← HK.out.n]; exact hso))).1
      have h2 := HK.out.t.l1
      omega
    rw [← hrow] at hr5 hrok hr1
    rw [hds] at S
    obtain ⟨A, hA⟩ : ∃ A, A = (r.out.take s).map (List.map mt) := ⟨_, rfl⟩
    obtain ⟨Z, hZ⟩ : ∃ Z, Z = r.out.drop (s + 1) := ⟨_, rfl⟩
    have hAl : A.length = s := by rw [hA, List.length_map, List.length_take]; omega
    rw [← hA, ← hZ] at S
    rw [← hA] at hts
    obtain ⟨rl, hrl⟩ : ∃ y, y = row.length := ⟨_, rfl⟩
    have HTS := Lib.hid hts; have HZ := Lib.hid hZ; have HAL := Lib.hid hAl; have HROK := Lib.hid hrok; have HRL := Lib.hid hrl
    rw [← hrl] at hr5 hr1
    clear hrow hmem hrok hds hts hA hZ hAl hrl hso
    have S1 : Star w wr [oE strssE [.slice (some ⟨og, 0, none⟩) ln lc] (A ++ ((row.take 0).map mt ++ row.drop 0) :: Z), oB gz [.int .i64 0, .int .i64 0, .slice none 0 0, .slice none 0 0] 40, oB gx [.int .i64 r.turner.letters, .int .i64 r.turner.start, .slice ta tn tc, .slice oa om oc] 40] := S
    clear S
    go_wp2
    go_loopw [8] (fun q wr => ∃ (k : Nat), k ≤ rl ∧ q = .int .i64 k ∧ Star w wr [oE strssE [.slice (some ⟨og, 0, none⟩) ln lc] (A ++ ((row.take k).map mt ++ row.drop k) :: Z), oB gz [.int .i64 0, .int .i64 0, .slice none 0 0, .slice none 0 0] 40, oB gx [.int .i64 r.turner.letters, .int .i64 r.turner.start, .slice ta tn tc, .slice oa om oc] 40]) (fun q _ => rl - (intOf q).toNat)
    case atStart => exact ⟨0, by omega, rfl, S1⟩
    case round =>
      clear S1
      obtain ⟨k, hk, rfl, S⟩ := hrel
      obtain ⟨X, hX⟩ : ∃ X, X = (row.take k).map mt ++ row.drop k := ⟨_, rfl⟩
      have hXl : X.length = rl := by rw [hX, mixt_len, HRL.out]
      rw [← hX] at S
      obtain ⟨og', oc', hv, -, -, -, n4⟩ := S.rows 0 rfl (by rw [List.length_append, List.length_cons]; omega)
      simp only [Value.slice.injEq, Option.some.injEq, Addr.mk.injEq, and_true] at hv
      obtain ⟨rfl, -, rfl⟩ := hv
      have hcell := cell_app A Z X s HAL.out
      obtain ⟨rb, rc, r1, r2, -, rf, r5⟩ := n4 s X hcell (by omega)
      rw [hXl] at r1 r2
      have HCELL := Lib.hid hcell
      clear n4 hcell
      by_cases hkl : k < rl
      case neg =>
        obtain rfl : k = rl := by omega
        have e : A ++ X :: Z = (r.out.take (s + 1)).map (List.map mt) ++ r.out.drop (s + 1) := by
          rw [HTS.out, ← HZ.out, hX, List.take_of_length_le (by rw [HRL.out]; exact Nat.le_refl _), List.drop_of_length_le (by rw [HRL.out]; exact Nat.le_refl _), List.append_nil, List.append_assoc]
          rfl
        have t1 : ¬ (k : Int) < (k : Int) := by omega
        have HE := Lib.hid e
        clear r5 hX e hXl
        go_wp2
        go_roundw
        case rel => exact ⟨s + 1, by omega, by go_num, by rw [← HE.out]; exact S⟩
        case measure => simp [intOf]; omega
      have hk2 : k < row.length := by rw [← HRL.out]; exact hkl
      have hget := mixt_get mt row k hk2
      have hset := mixt_set mt row k hk2
      have hok : outOk (row[k]?.getD ByteArray.empty) = true := HROK.out _ (by rw [List.getElem?_eq_getElem hk2]; exact List.getElem_mem hk2)
      rw [← hX] at hget hset
      obtain ⟨t, ht⟩ : ∃ t, t = row[k]?.getD ByteArray.empty := ⟨_, rfl⟩
      rw [← ht] at hget hset hok
      obtain ⟨zs, s1, s2⟩ := r5 k t hget
      obtain ⟨hz, -⟩ := s1
      obtain rfl : zs = [.string t] := hz
      have y0 : wr.cell? ⟨rb, k, none⟩ = some (.string t) := by have := s2 0 _ rfl; simpa [strE] using this
      have ht3 := out_size hok
      have HSET := Lib.hid hset; have HOK := Lib.hid hok
      have d0 := (S.below.cell hjw).trans c0
      have d1 := (S.below.cell hjw).trans c1
      have d2 := (S.below.cell hjw).trans c2
      have hb := get_bt t
      have HBT := Lib.hid (fun k h => bt_getD t k h)
      have HLEN := Lib.hid (Lib.size_eq t)
      have HBD := Lib.hid (fm_bound (fun d => (([a, b, c] : List ByteArray).getD (d.toNat - 97) ByteArray.empty).data.toList) t.data.toList (fun d hd => by
        unfold outOk at hok
        rw [Bool.and_eq_true, List.all_eq_true] at hok
        rcases abc_casesM (hok.2 d hd) with rfl | rfl | rfl
        · show a.data.toList.length ≤ 3; rw [← Lib.size_eq]; exact sa3
        · show b.data.toList.length ≤ 3; rw [← Lib.size_eq]; exact sb3
        · show c.data.toList.length ≤ 3; rw [← Lib.size_eq]; exact sc3))
      clear r5 s2 hget hset hX hok ht hk2
      go_wp2
      go_loopw [9, 10] (fun vt vi w9 => ∃ (i : Nat) (T : ByteArray), i ≤ t.size ∧ vi = .int .i64 i ∧ vt = .string T ∧ w9 = wr ∧ Hid (T = ⟨(mapL [a, b, c] (t.data.toList.take i)).toArray⟩)) (fun _ vi _ => t.size - (intOf vi).toNat)
      case atStart => exact ⟨0, _, Nat.zero_le _, rfl, rfl, rfl, Lib.hid rfl⟩
      case round =>
        obtain ⟨i, T, hi, rfl, rfl, hw, HT⟩ := hrel
        replace hw := hw.symm
        subst hw
        by_cases hit : i < t.size
        case neg =>
          obtain rfl : i = t.size := by omega
          have hTt : T = mt t := by
            rw [HT.out, HMT.out, List.take_of_length_le (by rw [← HLEN.out]; exact Nat.le_refl _)]
            rfl
          have hT9 : T.size ≤ maxLen := by
            rw [hTt, HMT.out]
            have e : (mapText [a, b, c] t).size = (t.data.toList.flatMap fun d => (([a, b, c] : List ByteArray).getD (d.toNat - 97) ByteArray.empty).data.toList).length := by
              unfold mapText
              rw [size_mk]
              rfl
            have h1 := HBD.out
            rw [← HLEN.out] at h1
            simp only [maxLen]
            omega
          have SM := S.setStr s X HCELL.out r1 k T hT9
          rw [set_app A Z X _ s HAL.out, hTt, HSET.out] at SM
          rw [← hTt] at SM
          have t1 : ¬ (t.size : Int) < (t.size : Int) := by omega
          have HTT := Lib.hid hTt
          clear hTt hT9 HBT HBD HT
          go_wp2
          go_roundw
          case rel => exact ⟨k + 1, by omega, by go_num, SM⟩
          case measure => simp [intOf]; omega
        have hil : i < t.data.toList.length := by rw [← HLEN.out]; exact hit
        have hb2 := HBT.out i hit
        have hmt := mapL_take [a, b, c] t.data.toList i hil
        have hmem : t.data.toList.getD i 0 ∈ t.data.toList := by rw [List.getD_eq_getElem?_getD, List.getElem?_eq_getElem hil]; exact List.getElem_mem hil
        have hab := abc_casesM (by
          have h1 := HOK.out
          unfold outOk at h1
          rw [Bool.and_eq_true, List.all_eq_true] at h1
          exact h1.2 _ hmem)
        have hT9 : T.size ≤ 9 := by
          have e : T.size = ((t.data.toList.take i).flatMap fun d => (([a, b, c] : List ByteArray).getD (d.toNat - 97) ByteArray.empty).data.toList).length := by
            rw [HT.out, size_mk]
            rfl
          have h1 := HBD.out
          have h2 := fm_le (fun d => (([a, b, c] : List ByteArray).getD (d.toNat - 97) ByteArray.empty).data.toList) t.data.toList i
          rw [← HLEN.out] at h1
          omega
        obtain ⟨d, hd⟩ : ∃ d, d = t.data.toList.getD i 0 := ⟨_, rfl⟩
        rw [← hd] at hb2 hmt hab
        have t1 : (i : Int) < (t.size : Int) := by omega
        clear hd hmem hil HBD
        rcases hab with rfl | rfl | rfl
        · have b1 : bt t i = 97 := hb2
          have HST := Lib.hid (show (⟨(mapL [a, b, c] (t.data.toList.take i)).toArray⟩ : ByteArray) ++ a = ⟨(mapL [a, b, c] (t.data.toList.take (i + 1))).toArray⟩ from by rw [hmt, mk_app]; rfl)
          clear hb2 hmt
          go_wp2
          go_roundw
          case rel => exact ⟨i + 1, _, by omega, by go_num, by first | rfl | trivial, by first | rfl | trivial, Lib.hid (by rw [HT.out]; exact HST.out)⟩
          case measure => simp [intOf]; omega
        · have b1 : bt t i = 98 := hb2
          have HST := Lib.hid (show (⟨(mapL [a, b, c] (t.data.toList.take i)).toArray⟩ : ByteArray) ++ b = ⟨(mapL [a, b, c] (t.data.toList.take (i + 1))).toArray⟩ from by rw [hmt, mk_app]; rfl)
          clear hb2 hmt
          go_wp2
          go_roundw
          case rel => exact ⟨i + 1, _, by omega, by go_num, by first | rfl | trivial, by first | rfl | trivial, Lib.hid (by rw [HT.out]; exact HST.out)⟩
          case measure => simp [intOf]; omega
        · have b1 : bt t i = 99 := hb2
          have HST := Lib.hid (show (⟨(mapL [a, b, c] (t.data.toList.take i)).toArray⟩ : ByteArray) ++ c = ⟨(mapL [a, b, c] (t.data.toList.take (i + 1))).toArray⟩ from by rw [hmt, mk_app]; rfl)
          clear hb2 hmt
          go_wp2
          go_roundw
          case rel => exact ⟨i + 1, _, by omega, by go_num, by first | rfl | trivial, by first | rfl | trivial, Lib.hid (by rw [HT.out]; exact HST.out)⟩
          case measure => simp [intOf]; omega

end Go.Proofs.YtcifdkliiljmkaaGreatDoor
