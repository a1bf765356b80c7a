/-
  What the law FnFirstOther goes through: drawn writers, all words, what is written.
-/
import Derived.Test.YtjochoghmpcgdaaDoorFnFirstPK
import Derived.Test.YtjochoghmpcgdaaDoorDrawWK
import Derived.Test.YtjochoghmpcgdaaDoorFirstSK
import Derived.Test.YtjochoghmpcgdaaDoorA2K
namespace Go.Proofs.YtjochoghmpcgdaaDoor
open Go.RowKit Go.PlainAid

theorem wordIn_of {c : Nat} {x : List UInt8} (hx : wordOk c x) : wordIn c (strW x) = true := by
  unfold wordIn
  rw [List.all_eq_true]
  intro k hk
  rw [List.mem_range, strW_size] at hk
  have h := hx _ (List.getElem_mem hk)
  have hb : bt (strW x) k = ((x[k].toNat : Nat) : Int) := by
    unfold bt
    rw [dif_pos (by rw [strW_size]; exact hk)]
    rfl
  rw [hb]
  exact within_eq ⟨by omega, by omega⟩

set_option maxHeartbeats 1000000 in
theorem sValidWord_yes (c : Nat) (x : List UInt8) (w : World) (hc1 : 1 ≤ c) (hc : c ≤ 3) (hx : wordOk c x) (hl : x.length ≤ 60) : Calls Tryd.prog 55 #[.int .i64 (c : Nat), .string (strW x)] w (Keeps (.bool true) w) := by
  have hs := strW_size x
  have HW := Lib.hid (l01Word_is true c (strW x) w (wordIn_of hx) ⟨by omega, by omega⟩ (by rw [hs]; unfold maxLen; omega))
  obtain ⟨X, hX⟩ : ∃ X, X = strW x := ⟨_, rfl⟩
  rw [← hX] at HW hs ⊢
  have hl2 : (X.size : Int) ≤ 60 := by omega
  clear hX hx
  go_enter Tryd.func55, Tryd.ntmps55
  go_wp2_with fail
  refine (l00In_is true (c : Int) 1 3 w (within_eq ⟨by omega, by omega⟩)).mono ?_
  rintro e w ⟨rfl, rfl⟩
  go_wp2_with fail
  refine HW.out.mono ?_
  rintro e w ⟨rfl, rfl⟩
  go_wp2
  go_ret
  exact ⟨rfl, rfl⟩

set_option maxHeartbeats 1000000 in
theorem given_yes (u : Writer) (v2 v3 : Value) (B g : Nat) (w : World) (x : List UInt8) (hB : B ≤ w.heap.size) (hA : Blk w g [.int .i64 u.turner.letters, .int .i64 u.turner.start, v2, v3] 30) (k2 : movessE.rd w B [v2] u.turner.moves) (k3 : strssE.rd w B [v3] u.out) (hok : writerOk u = true) (hx : wordOk u.turner.letters.toNat x) (hl : x.length ≤ 60) :
    Calls Tryd.prog 28 #[.pointer (some ⟨g, 0, none⟩), .string (strW x)] w (Gives (.int .i64 0) w) := by
  have K := (writOk_of hok).t
  have HL := Lib.hid (l07Ok_is true v2 v3 u B g w hB hA k2 k3 hok)
  obtain ⟨c, hc⟩ : ∃ c : Nat, u.turner.letters = c := ⟨u.turner.letters.toNat, by have := K.l1; omega⟩
  have hc1 : 1 ≤ c := by have := K.l1; omega
  have hc3 : c ≤ 3 := by have := K.l3; omega
  rw [hc, Int.toNat_natCast] at hx
  rw [hc] at hA
  have HV := Lib.hid (fun w' => sValidWord_yes c x w' hc1 hc3 hx hl)
  have HA := Lib.hid hA
  clear hA k2 k3 hok hx hc K
  go_enter Tryd.func28, Tryd.ntmps28
  go_wp2_with fail
  refine HL.out.mono ?_
  rintro e w1 ⟨rfl, b⟩
  have c0 := (HA.out.of b HA.out.lt).cell 0 rfl
  go_wp2_with fail
  refine (HV.out w1).mono ?_
  rintro e w2 ⟨rfl, rfl⟩
  go_wp2
  go_ret
  exact ⟨rfl, b⟩

set_option maxHeartbeats 1000000 in
theorem sWritten_yes (u : Writer) (cu : List Value) (B : Nat) (w : World) (x : List UInt8) (hB : B ≤ w.heap.size) (hu : writE.rd w B cu u) (hok : writerOk u = true) (hx : wordOk u.turner.letters.toNat x) (hl : x.length ≤ 60) (T : ByteArray × Int) (hT : writtenT u x = T) :
    Calls Tryd.prog 12 #[.agg cu.toArray, .string (strW x)] w (Gives (.tuple #[.string T.1, .int .i64 T.2]) w) := by
  obtain ⟨u2, u3, rfl, a1, a2, a3, a4⟩ := rd_WriterF hu
  have S := (Star.nil w).alloc (cs := #[.int .i64 u.turner.letters, .int .i64 u.turner.start, u2, u3]) (ty := 30)
  have HG := Lib.hid (given_yes u u2 u3 B w.heap.size _ x (Nat.le_trans hB S.below.size) (S.blk 0 rfl) (movessE.rd_of (S.below.mono hB) a3) (strssE.rd_of (S.below.mono hB) a4) hok hx hl)
  have HUW := Lib.hid (rdWP_box (S.blk 0 rfl) (movessE.rd_of (S.below.mono hB) a3) (strssE.rd_of (S.below.mono hB) a4) hok)
  have hs := strW_size x
  have hsd := strW_data x
  have HW := Lib.hid (fun w' (h : RdWP u w' w.heap.size) => swritten_any u (strW x) T w.heap.size w' h (by rw [hsd]; exact hx) (by rw [hs]; omega) (by rw [hsd]; exact hT))
  clear a1 a2 a3 a4 hu hx hT hok
  go_enter Tryd.func12, Tryd.ntmps12
  go_wp2_with fail
  generalize hW : w.alloc _ = w0 at S HG HUW ⊢
  refine HG.out.mono ?_
  rintro e w1 ⟨rfl, b⟩
  replace S := S.step b
  go_wp2_with fail
  refine (HW.out w1 (HUW.out.of b)).mono ?_
  rintro e w2 ⟨v, rfl, b2⟩
  replace S := S.step b2
  go_wp2
  go_ret2
  exact ⟨rfl, S.below⟩

theorem all_small : ((List.range 3).all fun c => (List.range 5).all fun N => decide ((allW c N).length ≤ 31)) = true := by decide +kernel

theorem allW_small {c N : Nat} (hc : c ≤ 2) (hN : N ≤ 4) : (allW c N).length ≤ 31 :=
  of_decide_eq_true (List.all_eq_true.1 (List.all_eq_true.1 all_small c (List.mem_range.2 (by omega))) N (List.mem_range.2 (by omega)))

set_option maxHeartbeats 1000000 in
theorem words_any (c N : Nat) (w : World) (hc1 : 1 ≤ c) (hc : c ≤ 2) (hN : N ≤ 4) : Calls Tryd.prog 11 #[.int .i64 (c : Nat), .int .i64 (N : Nat)] w (Makes strsE id ((allW c N).map strW) w) := by
  have hs := allW_small hc hN
  go_enter Tryd.func11, Tryd.ntmps11
  go_wp2_with fail
  refine (l07All_any c N ⟨hc1, by omega⟩ (by omega) w).mono ?_
  rintro e w1 ⟨v, b, rfl, hb, ⟨l, hl, f, o, nd, lo⟩, bl⟩
  have hbt : b = true := hb.2 (by omega)
  subst hbt
  rw [hl rfl] at o
  obtain ⟨va, vn, vc, rfl⟩ := ow_slice o
  clear hb hl hs
  go_wp2
  go_ret
  exact ⟨_, f, rfl, o, nd, lo, bl⟩

set_option maxHeartbeats 4000000 in
theorem A2Writer_any (c most : Nat) (v : Value) (w : World) (hc1 : 1 ≤ c) (hc : c ≤ 3) (hm1 : 1 ≤ most) (hm : most ≤ 4) (hr : SrcIs w v) :
    Calls Tryd.prog 8 #[v, .int .i64 (c : Nat), .int .i64 (most : Nat)] w (fun e w' => ∃ (W : Writer) (v2 v3 : Value), e = .returned (.agg #[.int .i64 W.turner.letters, .int .i64 W.turner.start, v2, v3]) ∧ writerOk W = true ∧ W.turner.letters = c ∧ writE.rd w' w'.heap.size [.int .i64 W.turner.letters, .int .i64 W.turner.start, v2, v3] W ∧ Below w.heap.size w w') := by
  have hv : ∃ a n c, v = .slice a n c := by
    obtain ⟨code, hr⟩ := hr
    obtain ⟨a, cap, rfl, -⟩ := rd_bytes hr
    exact ⟨a, _, cap, rfl⟩
  obtain ⟨va, vn, vc, rfl⟩ := hv
  have S := (Star.nil w).alloc (cs := #[.int .i64 0, .int .i64 0, .slice none 0 0, .slice none 0 0]) (ty := 30)
  have HR := Lib.hid hr
  clear hr
  go_enter Tryd.func8, Tryd.ntmps8
  go_wp2_with fail
  generalize hW : w.alloc _ = w0 at S ⊢
  obtain ⟨g2, hg2⟩ : ∃ g, g = w.heap.size := ⟨_, rfl⟩
  rw [← hg2] at S ⊢
  clear hW hg2
  refine (fromP_any _ w w0 _ HR.out S).mono ?_
  rintro e w1 ⟨q, rfl, S1⟩
  go_wp2_with fail
  refine (l07Drawn_any _ q 0 c most _ w w1 hc1 hc hm1 hm (by omega) HR.out S1).mono ?_
  rintro e w2 ⟨W, v2, v3, rfl, hok, hlt, S2⟩
  have S3 := S2.sel [2, 0]
  obtain ⟨x2, x3, hcs, -, -, q1, q2⟩ := rd_WriterF (S3.rd 1 rfl)
  obtain ⟨rfl, rfl⟩ : v2 = x2 ∧ v3 = x3 := by simpa using hcs
  obtain ⟨la, ln, lc, rfl⟩ := rd_slice q1
  obtain ⟨ra, rn, rc, rfl⟩ := rd_slice q2
  have A3 := S3.blk 0 rfl
  have z0 := A3.cell 0 rfl
  have z1 := A3.cell 1 rfl
  have z2 := A3.cell 2 rfl
  have z3 := A3.cell 3 rfl
  have zf := A3.free
  have HOK := Lib.hid hok; have HLT := Lib.hid hlt
  clear A3 q1 q2 S S1 S2 hok hlt hcs
  go_wp2
  generalize hW : (((w2.setCell _ _).setCell _ _).setCell _ _).setCell _ _ = w9
  have S9 := S3.set4 rfl hW
  have A4 := S9.blk 0 rfl
  have r0 := A4.cell 0 rfl
  have r1 := A4.cell 1 rfl
  have r2 := A4.cell 2 rfl
  have r3 := A4.cell 3 rfl
  exact bodyPost_ret (v := .agg #[.int .i64 W.turner.letters, .int .i64 W.turner.start, .slice la ln lc, .slice ra rn rc]) (by simp [results, Tryd.results8, go_sem, r0, r1, r2, r3]) rfl ⟨W, _, _, rfl, HOK.out, HLT.out, S9.rd 1 rfl, S9.below⟩

end Go.Proofs.YtjochoghmpcgdaaDoor
