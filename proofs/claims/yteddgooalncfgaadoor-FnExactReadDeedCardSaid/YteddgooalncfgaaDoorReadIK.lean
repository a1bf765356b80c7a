/-
  ReadDeed of the program (written by a program of this claim's own, gen_read.py).
-/
import Derived.Test.YteddgooalncfgaaDoorReadSK
import Derived.Test.YteddgooalncfgaaDoorDeedIK
import Derived.Test.YteddgooalncfgaaDoorCalmK
namespace Go.Proofs.YteddgooalncfgaaDoor
open Go.RowKit

theorem splitB_le (sep : ByteArray) (sv : Nat) : ∀ (k : Nat) (s x : ByteArray), x ∈ Lib.splitB sep sv k s → x.size ≤ s.size
  | 0, s, x, h => by
    have e : x = s := by simpa [Lib.splitB] using h
    rw [e]
    exact Nat.le_refl _
  | k + 1, s, x, h => by
    unfold Lib.splitB at h
    split at h
    · have e : x = s := by simpa using h
      rw [e]
      exact Nat.le_refl _
    · rcases List.mem_cons.1 h with e | h2
      · rw [e]; exact extract_size_le _ _ _
      · exact Nat.le_trans (splitB_le sep sv k _ x h2) (extract_size_le _ _ _)

theorem two_strs (w : World) : OwAll strE w [(⟨#[]⟩ : ByteArray), ⟨#[]⟩] [[Value.string ⟨#[]⟩], [Value.string ⟨#[]⟩]] [[], []] := .cons ⟨⟨rfl, by decide⟩, rfl⟩ (.cons ⟨⟨rfl, by decide⟩, rfl⟩ .nil)

theorem one_two_strs : ∀ u, u ∈ [Value.string ⟨#[]⟩, Value.string ⟨#[]⟩] → u.oneCell' = true := by
  intro u hu
  simp only [List.mem_cons, List.not_mem_nil, or_false, or_self] at hu
  rw [hu]; rfl

theorem index_word (q : Nat) (x0 : ByteArray) (w : World) (hq : Blk w q (deedWs.map Value.string) 9) : Calls Tryd.prog 22 #[.slice (some ⟨q, 0, none⟩) 9 9, .string x0] w (Gives (.int .i64 (Lib.idxOfS deedWs x0)) w) := by
  refine (Any.slices_Index_string Tryd.lays109 q 0 9 9 deedWs x0 w (by decide) (by decide) (fun j hj => ?_)).mono ?_
  · rw [Nat.zero_add]
    have hj9 : j < 9 := hj
    have := hq.cell j (deedWs_at j hj9)
    rw [this]
    unfold deedWord
    rw [List.getD_eq_getElem?_getD]
    rfl
  · rintro e w' ⟨rfl, rfl⟩
    exact ⟨rfl, Below.refl _ _⟩

set_option maxHeartbeats 8000000 in
set_option maxRecDepth 100000 in
theorem implReadDeed_any (t : ByteArray) (m : Int) (w : World) (hs : t.size ≤ 1048576) (hM : MaxIs m w.heap.size w) (hT : Pow10 w.heap.size w) (h15 : ErrIs (Tryd.lays174_ren.g 15) w.heap.size w) (h16 : ErrIs (Tryd.lays174_ren.g 16) w.heap.size w) :
    Calls Tryd.prog 9 #[.string t] w (Gives (.tuple #[deedV (readDeed t).1, .int .i64 (readDeed t).2]) w) := by
  have hcl := Lib.countB_le ⟨#[32]⟩ (by decide) t.size t (Nat.le_refl _)
  have hlen : (splitW t).length = Lib.countB t ⟨#[32]⟩ + 1 := Lib.splitB_all ⟨#[32]⟩ (by decide) 0 _ t rfl
  have HLE := Lib.hid hlen
  have hl2 : (splitW t).length + 2 ≤ 1000000000000 := by omega
  have hl1 : 1 ≤ (splitW t).length := by omega
  have hmx : ∀ x, x ∈ splitW t → x.size ≤ 1048576 := fun x hx => Nat.le_trans (splitB_le _ _ _ _ _ hx) hs
  have HMX := Lib.hid hmx
  have hpl : (wordsP t).length = (splitW t).length + 2 := by unfold wordsP; rw [List.length_append]; rfl
  have HPL := Lib.hid hpl
  have HM := Lib.hid hM; have HT := Lib.hid hT; have H15 := Lib.hid h15; have H16 := Lib.hid h16
  have hsp := fun (w' : World) (hm : w'.cell? ⟨Tryd.lays146_ren.g 1, 0, none⟩ = some (.int .i64 m)) => Lib.hid (Any.strings_Split Tryd.lays146 (by kernel_rfl) t ⟨#[32]⟩ m w' (by omega) hm (by decide))
  clear hcl hlen hmx hpl hM hT h15 h16 hs
  go_enter Tryd.func9, Tryd.ntmps9
  have S := (Star.nil w).alloc (cs := #[.int .i64 0, .int .i64 0, .int .i64 0]) (ty := 25)
  go_wp2_with fail
  generalize hW : w.alloc _ = w0 at S ⊢
  clear hW
  have B0 := S.below
  refine (hsp w0 (HM.out w0 B0)).out.mono ?_
  rintro e w1 ⟨rfl, hw⟩
  rw [← HLE.out]
  have hb : Below w0.heap.size w0 w1 := by rw [hw]; exact (Below.refl _ _).alloc (Nat.le_refl _) _
  have hk : Blk w1 w0.heap.size ((splitW t).map Value.string) 9 := by rw [hw]; exact blk_list w0 ((splitW t).map Value.string) 9
  clear hw hsp
  have S1 := S.blocked hk (Nat.le_refl _) hb
  clear S hk hb B0
  have S2 := S1.lit (E := strE) (splitW t) Value.string rfl rfl (fun x hx => ⟨⟨rfl, Nat.le_trans (HMX.out x hx) (by decide)⟩, rfl⟩) (by simp only [maxLen]; omega)
  clear S1
  have SA := (S2.alloc (cs := #[.string ⟨#[]⟩, .string ⟨#[]⟩]) (ty := 9)).sel [1, 2]
  clear S2
  obtain ⟨sp, hsp⟩ : ∃ x, x = splitW t := ⟨_, rfl⟩
  obtain ⟨sl, hsl⟩ : ∃ x, x = sp.length := ⟨_, rfl⟩
  rw [← hsp] at SA hl2 hl1 ⊢
  rw [← hsl] at SA hl2 hl1 ⊢
  have HSP := Lib.hid hsp
  have HSL := Lib.hid hsl
  have hl3 : sp.length + 2 ≤ 1000000000000 := by rw [← hsl]; exact hl2
  clear hsp hsl
  go_wp2_with (at_builtin; refine stS_StringS (ys := [⟨#[]⟩, ⟨#[]⟩]) SA rfl rfl rfl (two_strs _) rfl (src_cells rfl cell_a1 one_two_strs) hl3 ?_; intro ja jn jc w3 S3)
  have e0 : sp ++ [(⟨#[]⟩ : ByteArray), ⟨#[]⟩] = wordsP t := by rw [HSP.out]; rfl
  rw [e0] at S3
  clear e0
  have hpl : 2 < (wordsP t).length := by rw [HPL.out, ← HSP.out, ← HSL.out]; omega
  have hrd := S3.rd 0 rfl
  obtain ⟨hjn, jb, jo, rfl, hjb, hjc⟩ := strs_cells hrd (by omega)
  clear hrd
  have A3 := S3.blk 1 rfl
  have B3 := S3.below
  clear S3 SA
  obtain ⟨x0, hx0⟩ : ∃ x, x = (wordsP t).getD 0 ByteArray.empty := ⟨_, rfl⟩
  obtain ⟨x1, hx1⟩ : ∃ x, x = (wordsP t).getD 1 ByteArray.empty := ⟨_, rfl⟩
  obtain ⟨x2, hx2⟩ : ∃ x, x = (wordsP t).getD 2 ByteArray.empty := ⟨_, rfl⟩
  obtain ⟨j0, z0⟩ := hjc 0 (by omega)
  obtain ⟨j1, z1⟩ := hjc 1 (by omega)
  obtain ⟨j2, z2⟩ := hjc 2 (by omega)
  have hm0 : ∀ k, k < (wordsP t).length → ((wordsP t).getD k ByteArray.empty).size ≤ 281474976710656 := by
    intro k hk
    rw [List.getD_eq_getElem?_getD, List.getElem?_eq_getElem hk]
    have hm := List.getElem_mem hk
    unfold wordsP at hm
    rcases List.mem_append.1 hm with h | h
    · have := HMX.out _ h
      show ((wordsP t)[k]).size ≤ _
      unfold wordsP
      omega
    · have h0 : ((splitW t ++ [⟨#[]⟩, ⟨#[]⟩])[k]) = (⟨#[]⟩ : ByteArray) := by simpa using h
      show ((wordsP t)[k]).size ≤ _
      unfold wordsP
      rw [h0]
      decide
  replace z1 := hm0 1 (by omega)
  replace z2 := hm0 2 (by omega)
  have hp : parseDeed t = ⟨Lib.idxOfS deedWs x0, numOf x1, numOf x2⟩ := by unfold parseDeed; rw [hx0, hx1, hx2]
  rw [← hx0] at j0
  rw [← hx1] at j1 z1
  rw [← hx2] at j2 z2
  clear hm0 hjc hx0 hx1 hx2 z0
  obtain ⟨kk, hkk⟩ : ∃ x, x = Lib.idxOfS deedWs x0 := ⟨_, rfl⟩
  obtain ⟨n1, hn1⟩ : ∃ x, x = numOf x1 := ⟨_, rfl⟩
  obtain ⟨n2, hn2⟩ : ∃ x, x = numOf x2 := ⟨_, rfl⟩
  have hN1 := fun w' a b => Lib.hid (number_any x1 w' z1 a b)
  have hN2 := fun w' a b => Lib.hid (number_any x2 w' z2 a b)
  have hIX := fun q w' a => Lib.hid (index_word q x0 w' a)
  rw [← hkk] at hIX hp
  rw [← hn1] at hN1 hp
  rw [← hn2] at hN2 hp
  have HP := Lib.hid hp
  have l0 : (0 : Int) < (jn : Int) := by omega
  have l1 : (1 : Int) < (jn : Int) := by omega
  have l2 : (2 : Int) < (jn : Int) := by omega
  have l0n : 0 < jn := by omega
  have l1n : 1 < jn := by omega
  have l2n : 2 < jn := by omega
  have HA3 := Lib.hid A3; have la := A3.lt
  clear hp hkk hn1 hn2 z1 z2 hjn hpl A3
  refine wp_region_m 16 (by kernel_rfl) rfl ?_
  intro w4 b4
  have c0 : w4.cell? ⟨jb, jo, none⟩ = some (.string x0) := (b4.cell hjb).trans j0
  have c1 : w4.cell? ⟨jb, jo + 1, none⟩ = some (.string x1) := (b4.cell hjb).trans j1
  have c2 : w4.cell? ⟨jb, jo + 2, none⟩ = some (.string x2) := (b4.cell hjb).trans j2
  have g1 : jb < w4.heap.size := Nat.lt_of_lt_of_le hjb b4.size
  have hov := cell_over w4
  have B4 := B3.trans (b4.mono B3.size)
  have HA4 := Lib.hid (HA3.out.of b4 la); have la4 := HA4.out.lt
  clear HA3 la B3 b4 j0 j1 j2 hjb
  refine wpM_read 1 rfl rfl (by kernel_rfl) (fun _ d _ _ _ h => by cases d <;> exact h) ?_
  go_big_quiet_step (fail)
  refine wpQuiet_nil ?_
  refine wpM_read 2 rfl rfl (by kernel_rfl) (fun _ d _ _ _ h => by cases d <;> exact h) ?_
  go_big_quiet_step (fail)
  refine wpQuiet_nil ?_
  refine wpM_read 3 rfl rfl (by kernel_rfl) (fun _ d _ _ _ h => by cases d <;> exact h) ?_
  go_big_quiet_step (fail)
  refine wpQuiet_nil ?_
  refine wpM_read 5 rfl rfl (by kernel_rfl) (fun _ d _ _ _ h => by cases d <;> exact h) ?_
  go_big_quiet_step (fail)
  refine wpQuiet_nil ?_
  refine wpM_read 6 rfl rfl (by kernel_rfl) (fun _ d _ _ _ h => by cases d <;> exact h) ?_
  go_big_quiet_step (fail)
  refine wpQuiet_nil ?_
  refine wpM_read 7 rfl rfl (by kernel_rfl) (fun _ d _ _ _ h => by cases d <;> exact h) ?_
  go_big_quiet_step (fail)
  refine wpQuiet_nil ?_
  refine wpM_read 9 rfl rfl (by kernel_rfl) (fun _ d _ _ _ h => by cases d <;> exact h) ?_
  go_big_quiet_step (fail)
  refine wpQuiet_nil ?_
  refine wpM_read 10 rfl rfl (by kernel_rfl) (fun _ d _ _ _ h => by cases d <;> exact h) ?_
  go_big_quiet_step (fail)
  refine wpQuiet_nil ?_
  refine wpM_read 11 rfl rfl (by kernel_rfl) (fun _ d _ _ _ h => by cases d <;> exact h) ?_
  go_big_quiet_step (fail)
  refine wpQuiet_nil ?_
  clear c0 c1 c2 hov g1
  refine wpM_ready [0, 14] (by kernel_rfl) (by decide) (AllM.cons rfl (fun w5 b5 K hK => ?_) (AllM.cons rfl (fun w5 b5 K hK => ?_) AllM.nil))
  · go_simp
    go_at_call 17
    refine (deedWords_any m w5 ((HM.out.step (B4.trans (b5.mono B4.size))).up (Nat.le_trans B4.size b5.size))).mono ?_
    rintro e w6 ⟨q, rfl, hq, -, b6⟩
    try go_simp
    refine hK _ _ (.inr b6) ?_
    clear hK K
    have b46 := le.trans b5 b6
    have B6 : Below w.heap.size w w6 := B4.trans (b46.mono B4.size)
    have HQ5 := Lib.hid hq
    have HA6 := Lib.hid (HA4.out.of b46 la4)
    clear hq b5 b6 b46
    refine wpM_call 4 22 #[.slice (some ⟨q, 0, none⟩) 9 9, .string x0] (.int .i64 kk) rfl (by kernel_rfl) (fun _ d _ _ _ h => by cases d <;> exact h) rfl (fun x => by go_simp) (fun x bx => (hIX q x (HQ5.out.of bx HQ5.out.lt)).out) (fun K hK => ?_)
    go_simp
    refine hK _ ?_
    clear hK K
    refine wpM_call 8 23 #[.string x1] (.int .i64 n1) rfl (by kernel_rfl) (fun _ d _ _ _ h => by cases d <;> exact h) rfl (fun x => by go_simp) (fun x bx => (hN1 x ((H15.out.step (B6.trans (bx.mono B6.size))).up (Nat.le_trans B6.size bx.size)) ((H16.out.step (B6.trans (bx.mono B6.size))).up (Nat.le_trans B6.size bx.size))).out) (fun K hK => ?_)
    go_simp
    refine hK _ ?_
    clear hK K
    refine wpM_call 12 23 #[.string x2] (.int .i64 n2) rfl (by kernel_rfl) (fun _ d _ _ _ h => by cases d <;> exact h) rfl (fun x => by go_simp) (fun x bx => (hN2 x ((H15.out.step (B6.trans (bx.mono B6.size))).up (Nat.le_trans B6.size bx.size)) ((H16.out.step (B6.trans (bx.mono B6.size))).up (Nat.le_trans B6.size bx.size))).out) (fun K hK => ?_)
    go_simp
    refine hK _ ?_
    clear hK K
    refine wpM_read 13 rfl rfl (by kernel_rfl) (fun _ d _ _ _ h => by cases d <;> exact h) ?_
    go_big_quiet_step (fail)
    refine wpQuiet_nil ?_
    refine wpM_ready [14] (by kernel_rfl) (by decide) (AllM.cons rfl (fun w7 b7 K hK => ?_) AllM.nil)
    go_simp
    have D0 := Lib.hid (Blk.new w7 #[.int .i64 0, .int .i64 0, .int .i64 0] 25)
    have b7a : le w7 (w7.alloc (.cells #[.int .i64 0, .int .i64 0, .int .i64 0] 25)) := (Below.refl _ _).alloc (Nat.le_refl _) _
    refine hK _ _ (.inr b7a) ?_
    clear hK K
    have b67 := le.trans b7 b7a
    have B7 : Below w.heap.size w _ := B6.trans (b67.mono B6.size)
    have HA7 := Lib.hid (HA6.out.of b67 HA6.out.lt)
    have hlo : w.heap.size ≤ w7.heap.size := Nat.le_trans B6.size b7.size
    have hne : w7.heap.size ≠ w.heap.size := Nat.ne_of_gt (Nat.lt_of_lt_of_le HA6.out.lt b7.size)
    obtain ⟨db, hdb⟩ : ∃ x, x = w7.heap.size := ⟨_, rfl⟩
    rw [← hdb] at D0 hlo hne ⊢
    generalize hW : w7.alloc _ = wl at D0 B7 HA7 ⊢
    clear hW hdb b67 b7 b7a B6 HA6 HQ5
    refine wpM_ready [15] (by kernel_rfl) (by decide) (AllM.cons rfl (fun w8 b8 K hK => ?_) AllM.nil)
    have D8 := D0.out.of b8 D0.out.lt
    have HD8 := Lib.hid D8
    have d0 := D8.cell 0 rfl
    have d1 := D8.cell 1 rfl
    have d2 := D8.cell 2 rfl
    have df := D8.free
    clear D8
    go_simp
    refine hK _ _ (.inl (closes_of (by kernel_rfl))) ?_
    clear hK K
    refine wpM_done (by kernel_rfl) (fun w9 b9 => ?_)
    have D9 : Blk w9 db [.int .i64 kk, .int .i64 n1, .int .i64 n2] 25 := (((HD8.out.set 0 (.int .i64 kk)).set 1 (.int .i64 n1)).set 2 (.int .i64 n2)).of b9 (by simpa using HD8.out.lt)
    have B8 : Below w.heap.size w w8 := B7.trans (b8.mono B7.size)
    have B9 : Below w.heap.size w w9 := (((B8.setCell hlo _).setCell hlo _).setCell hlo _).trans (b9.mono (by simpa using B8.size))
    have A9 : Blk w9 w.heap.size [.int .i64 0, .int .i64 0, .int .i64 0] 25 := ((((HA7.out.of b8 HA7.out.lt).other (Ne.symm hne) _).other (Ne.symm hne) _).other (Ne.symm hne) _).of b9 (by simpa using (HA7.out.of b8 HA7.out.lt).lt)
    have HD9 := Lib.hid D9; have HA9 := Lib.hid A9
    clear D9 A9 d0 d1 d2 df HD8 b8 b9 B8 D0 HA7 hlo hne B7
    have e0 := HD9.out.cell 0 rfl
    have e1 := HD9.out.cell 1 rfl
    have e2 := HD9.out.cell 2 rfl
    clear hIX hN1 hN2 H15 H16 HMX HSP HSL HLE HPL
    go_wp2_with fail
    refine (validDeed_any ⟨kk, n1, n2⟩ w9).mono ?_
    rintro e w10 ⟨rfl, b10⟩
    have D10 := HD9.out.of b10 HD9.out.lt
    have HD10 := Lib.hid D10
    have HA10 := Lib.hid (HA9.out.of b10 HA9.out.lt)
    have B10 := B9.trans (b10.mono B9.size)
    clear e0 e1 e2 HD9 HA9 b10 B9 D10
    cases hv : validDeed ⟨kk, n1, n2⟩
    case false =>
      have hrd : readDeed t = (default, 5) := by unfold readDeed; rw [HP.out, hv]; rfl
      have HRD := Lib.hid hrd
      clear hrd hv
      have c0r := HA10.out.cell 0 rfl
      have c1r := HA10.out.cell 1 rfl
      have c2r := HA10.out.cell 2 rfl
      have fr := HA10.out.free
      go_wp2
      obtain ⟨q0, q1, q2⟩ := set3_cells HA10.out (v0 := .int .i64 0) (v1 := .int .i64 0) (v2 := .int .i64 0)
      exact bodyPost_ret (v := .tuple #[.agg #[.int .i64 0, .int .i64 0, .int .i64 0], .int .i64 5]) (by simp [results, Tryd.results9, go_sem, q0, q1, q2]) rfl ⟨by rw [HRD.out]; rfl, ((B10.setCell (Nat.le_refl _) _).setCell (Nat.le_refl _) _).setCell (Nat.le_refl _) _⟩
    have HV := Lib.hid hv
    clear hv
    have e0 := HD10.out.cell 0 rfl
    have e1 := HD10.out.cell 1 rfl
    have e2 := HD10.out.cell 2 rfl
    go_wp2_with fail
    refine (implDeedText_any ⟨kk, n1, n2⟩ m w10 ((HM.out.step B10).up B10.size) ((HT.out.step B10).up B10.size)).mono ?_
    rintro e w11 ⟨rfl, b11⟩
    have D11 := HD10.out.of b11 HD10.out.lt
    have HA11 := Lib.hid (HA10.out.of b11 HA10.out.lt)
    have B11 := B10.trans (b11.mono B10.size)
    clear e0 e1 e2 HD10 HA10 b11 B10
    obtain ⟨tx, htx⟩ : ∃ x, x = deedText ⟨kk, n1, n2⟩ := ⟨_, rfl⟩
    rw [← htx]
    have c0r := HA11.out.cell 0 rfl
    have c1r := HA11.out.cell 1 rfl
    have c2r := HA11.out.cell 2 rfl
    have fr := HA11.out.free
    by_cases hy : tx = t
    case pos =>
      have hrd : readDeed t = (⟨kk, n1, n2⟩, 0) := by unfold readDeed; rw [HP.out, HV.out, ← htx, hy, decide_eq_true rfl]; rfl
      have HRD := Lib.hid hrd
      have e0 := D11.cell 0 rfl
      have e1 := D11.cell 1 rfl
      have e2 := D11.cell 2 rfl
      clear hrd htx D11
      subst hy
      go_wp2
      obtain ⟨q0, q1, q2⟩ := set3_cells HA11.out (v0 := .int .i64 kk) (v1 := .int .i64 n1) (v2 := .int .i64 n2)
      exact bodyPost_ret (v := .tuple #[.agg #[.int .i64 kk, .int .i64 n1, .int .i64 n2], .int .i64 0]) (by simp [results, Tryd.results9, go_sem, q0, q1, q2]) rfl ⟨by rw [HRD.out]; rfl, ((B11.setCell (Nat.le_refl _) _).setCell (Nat.le_refl _) _).setCell (Nat.le_refl _) _⟩
    case neg =>
      have hrd : readDeed t = (default, 5) := by unfold readDeed; rw [HP.out, HV.out, ← htx, decide_eq_false hy]; rfl
      have HRD := Lib.hid hrd
      have tne : (tx.toList == t.toList) = false := bytes_ne hy
      clear hrd htx D11 hy
      go_wp2
      obtain ⟨q0, q1, q2⟩ := set3_cells HA11.out (v0 := .int .i64 0) (v1 := .int .i64 0) (v2 := .int .i64 0)
      exact bodyPost_ret (v := .tuple #[.agg #[.int .i64 0, .int .i64 0, .int .i64 0], .int .i64 5]) (by simp [results, Tryd.results9, go_sem, q0, q1, q2]) rfl ⟨by rw [HRD.out]; rfl, ((B11.setCell (Nat.le_refl _) _).setCell (Nat.le_refl _) _).setCell (Nat.le_refl _) _⟩
  · go_simp
    have D0 := Lib.hid (Blk.new w5 #[.int .i64 0, .int .i64 0, .int .i64 0] 25)
    have b5a : le w5 (w5.alloc (.cells #[.int .i64 0, .int .i64 0, .int .i64 0] 25)) := (Below.refl _ _).alloc (Nat.le_refl _) _
    refine hK _ _ (.inr b5a) ?_
    clear hK K
    have b45 := le.trans b5 b5a
    have B5 : Below w.heap.size w _ := B4.trans (b45.mono B4.size)
    have HA5 := Lib.hid (HA4.out.of b45 la4)
    have hlo : w.heap.size ≤ w5.heap.size := Nat.le_trans B4.size b5.size
    have hne : w5.heap.size ≠ w.heap.size := Nat.ne_of_gt (Nat.lt_of_lt_of_le la4 b5.size)
    obtain ⟨db, hdb⟩ : ∃ x, x = w5.heap.size := ⟨_, rfl⟩
    rw [← hdb] at D0 hlo hne ⊢
    generalize hW : w5.alloc _ = wk at D0 B5 HA5 ⊢
    clear hW hdb b45 b5 b5a
    refine wpM_ready [0] (by kernel_rfl) (by decide) (AllM.cons rfl (fun w6 b6 K hK => ?_) AllM.nil)
    go_simp
    go_at_call 17
    refine (deedWords_any m w6 ((HM.out.step (B5.trans (b6.mono B5.size))).up (Nat.le_trans B5.size b6.size))).mono ?_
    rintro e wl ⟨q, rfl, hq, -, b7⟩
    try go_simp
    refine hK _ _ (.inr b7) ?_
    clear hK K
    have b57 := le.trans b6 b7
    have B7 : Below w.heap.size w wl := B5.trans (b57.mono B5.size)
    have HQ5 := Lib.hid hq
    have HA7 := Lib.hid (HA5.out.of b57 HA5.out.lt)
    replace D0 := Lib.hid (D0.out.of b57 D0.out.lt)
    clear hq b6 b7 b57 B5 HA5
    refine wpM_call 4 22 #[.slice (some ⟨q, 0, none⟩) 9 9, .string x0] (.int .i64 kk) rfl (by kernel_rfl) (fun _ d _ _ _ h => by cases d <;> exact h) rfl (fun x => by go_simp) (fun x bx => (hIX q x (HQ5.out.of bx HQ5.out.lt)).out) (fun K hK => ?_)
    go_simp
    refine hK _ ?_
    clear hK K
    refine wpM_call 8 23 #[.string x1] (.int .i64 n1) rfl (by kernel_rfl) (fun _ d _ _ _ h => by cases d <;> exact h) rfl (fun x => by go_simp) (fun x bx => (hN1 x ((H15.out.step (B7.trans (bx.mono B7.size))).up (Nat.le_trans B7.size bx.size)) ((H16.out.step (B7.trans (bx.mono B7.size))).up (Nat.le_trans B7.size bx.size))).out) (fun K hK => ?_)
    go_simp
    refine hK _ ?_
    clear hK K
    refine wpM_call 12 23 #[.string x2] (.int .i64 n2) rfl (by kernel_rfl) (fun _ d _ _ _ h => by cases d <;> exact h) rfl (fun x => by go_simp) (fun x bx => (hN2 x ((H15.out.step (B7.trans (bx.mono B7.size))).up (Nat.le_trans B7.size bx.size)) ((H16.out.step (B7.trans (bx.mono B7.size))).up (Nat.le_trans B7.size bx.size))).out) (fun K hK => ?_)
    go_simp
    refine hK _ ?_
    clear hK K
    refine wpM_read 13 rfl rfl (by kernel_rfl) (fun _ d _ _ _ h => by cases d <;> exact h) ?_
    go_big_quiet_step (fail)
    refine wpQuiet_nil ?_
    clear HQ5
    refine wpM_ready [15] (by kernel_rfl) (by decide) (AllM.cons rfl (fun w8 b8 K hK => ?_) AllM.nil)
    have D8 := D0.out.of b8 D0.out.lt
    have HD8 := Lib.hid D8
    have d0 := D8.cell 0 rfl
    have d1 := D8.cell 1 rfl
    have d2 := D8.cell 2 rfl
    have df := D8.free
    clear D8
    go_simp
    refine hK _ _ (.inl (closes_of (by kernel_rfl))) ?_
    clear hK K
    refine wpM_done (by kernel_rfl) (fun w9 b9 => ?_)
    have D9 : Blk w9 db [.int .i64 kk, .int .i64 n1, .int .i64 n2] 25 := (((HD8.out.set 0 (.int .i64 kk)).set 1 (.int .i64 n1)).set 2 (.int .i64 n2)).of b9 (by simpa using HD8.out.lt)
    have B8 : Below w.heap.size w w8 := B7.trans (b8.mono B7.size)
    have B9 : Below w.heap.size w w9 := (((B8.setCell hlo _).setCell hlo _).setCell hlo _).trans (b9.mono (by simpa using B8.size))
    have A9 : Blk w9 w.heap.size [.int .i64 0, .int .i64 0, .int .i64 0] 25 := ((((HA7.out.of b8 HA7.out.lt).other (Ne.symm hne) _).other (Ne.symm hne) _).other (Ne.symm hne) _).of b9 (by simpa using (HA7.out.of b8 HA7.out.lt).lt)
    have HD9 := Lib.hid D9; have HA9 := Lib.hid A9
    clear D9 A9 d0 d1 d2 df HD8 b8 b9 B8 D0 HA7 hlo hne B7
    have e0 := HD9.out.cell 0 rfl
    have e1 := HD9.out.cell 1 rfl
    have e2 := HD9.out.cell 2 rfl
    clear hIX hN1 hN2 H15 H16 HMX HSP HSL HLE HPL
    go_wp2_with fail
    refine (validDeed_any ⟨kk, n1, n2⟩ w9).mono ?_
    rintro e w10 ⟨rfl, b10⟩
    have D10 := HD9.out.of b10 HD9.out.lt
    have HD10 := Lib.hid D10
    have HA10 := Lib.hid (HA9.out.of b10 HA9.out.lt)
    have B10 := B9.trans (b10.mono B9.size)
    clear e0 e1 e2 HD9 HA9 b10 B9 D10
    cases hv : validDeed ⟨kk, n1, n2⟩
    case false =>
      have hrd : readDeed t = (default, 5) := by unfold readDeed; rw [HP.out, hv]; rfl
      have HRD := Lib.hid hrd
      clear hrd hv
      have c0r := HA10.out.cell 0 rfl
      have c1r := HA10.out.cell 1 rfl
      have c2r := HA10.out.cell 2 rfl
      have fr := HA10.out.free
      go_wp2
      obtain ⟨q0, q1, q2⟩ := set3_cells HA10.out (v0 := .int .i64 0) (v1 := .int .i64 0) (v2 := .int .i64 0)
      exact bodyPost_ret (v := .tuple #[.agg #[.int .i64 0, .int .i64 0, .int .i64 0], .int .i64 5]) (by simp [results, Tryd.results9, go_sem, q0, q1, q2]) rfl ⟨by rw [HRD.out]; rfl, ((B10.setCell (Nat.le_refl _) _).setCell (Nat.le_refl _) _).setCell (Nat.le_refl _) _⟩
    have HV := Lib.hid hv
    clear hv
    have e0 := HD10.out.cell 0 rfl
    have e1 := HD10.out.cell 1 rfl
    have e2 := HD10.out.cell 2 rfl
    go_wp2_with fail
    refine (implDeedText_any ⟨kk, n1, n2⟩ m w10 ((HM.out.step B10).up B10.size) ((HT.out.step B10).up B10.size)).mono ?_
    rintro e w11 ⟨rfl, b11⟩
    have D11 := HD10.out.of b11 HD10.out.lt
    have HA11 := Lib.hid (HA10.out.of b11 HA10.out.lt)
    have B11 := B10.trans (b11.mono B10.size)
    clear e0 e1 e2 HD10 HA10 b11 B10
    obtain ⟨tx, htx⟩ : ∃ x, x = deedText ⟨kk, n1, n2⟩ := ⟨_, rfl⟩
    rw [← htx]
    have c0r := HA11.out.cell 0 rfl
    have c1r := HA11.out.cell 1 rfl
    have c2r := HA11.out.cell 2 rfl
    have fr := HA11.out.free
    by_cases hy : tx = t
    case pos =>
      have hrd : readDeed t = (⟨kk, n1, n2⟩, 0) := by unfold readDeed; rw [HP.out, HV.out, ← htx, hy, decide_eq_true rfl]; rfl
      have HRD := Lib.hid hrd
      have e0 := D11.cell 0 rfl
      have e1 := D11.cell 1 rfl
      have e2 := D11.cell 2 rfl
      clear hrd htx D11
      subst hy
      go_wp2
      obtain ⟨q0, q1, q2⟩ := set3_cells HA11.out (v0 := .int .i64 kk) (v1 := .int .i64 n1) (v2 := .int .i64 n2)
      exact bodyPost_ret (v := .tuple #[.agg #[.int .i64 kk, .int .i64 n1, .int .i64 n2], .int .i64 0]) (by simp [results, Tryd.results9, go_sem, q0, q1, q2]) rfl ⟨by rw [HRD.out]; rfl, ((B11.setCell (Nat.le_refl _) _).setCell (Nat.le_refl _) _).setCell (Nat.le_refl _) _⟩
    case neg =>
      have hrd : readDeed t = (default, 5) := by unfold readDeed; rw [HP.out, HV.out, ← htx, decide_eq_false hy]; rfl
      have HRD := Lib.hid hrd
      have tne : (tx.toList == t.toList) = false := bytes_ne hy
      clear hrd htx D11 hy
      go_wp2
      obtain ⟨q0, q1, q2⟩ := set3_cells HA11.out (v0 := .int .i64 0) (v1 := .int .i64 0) (v2 := .int .i64 0)
      exact bodyPost_ret (v := .tuple #[.agg #[.int .i64 0, .int .i64 0, .int .i64 0], .int .i64 5]) (by simp [results, Tryd.results9, go_sem, q0, q1, q2]) rfl ⟨by rw [HRD.out]; rfl, ((B11.setCell (Nat.le_refl _) _).setCell (Nat.le_refl _) _).setCell (Nat.le_refl _) _⟩

end Go.Proofs.YteddgooalncfgaaDoor
