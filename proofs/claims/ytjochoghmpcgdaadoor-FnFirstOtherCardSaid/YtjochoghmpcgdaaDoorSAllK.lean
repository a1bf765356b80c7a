/-
  The specification's list of all words up to a length: the function l07All.
-/
import Derived.Test.YtjochoghmpcgdaaDoorSAllWK
import Derived.Test.YtjochoghmpcgdaaDoorStepTK
import Derived.Test.YtjochoghmpcgdaaDoorCalmPK
import Derived.Test.YtjochoghmpcgdaaDoorEqStrsK
namespace Go.Proofs.YtjochoghmpcgdaaDoor
open Go.RowKit

theorem strs_cellsA {w : World} {B : Nat} {l : List ByteArray} {sa : Option Addr} {sn sc : Nat} (h : strsE.rd w B [.slice sa sn sc] l) (h0 : 0 < l.length) : sn = l.length ∧ ∃ b o, sa = some ⟨b, o, none⟩ ∧ b < B ∧ ∀ k, k < l.length → w.cell? ⟨b, o + k, none⟩ = some (.string (l.getD k ByteArray.empty)) ∧ (l.getD k ByteArray.empty).size ≤ 9223372036854775807 := by
  obtain ⟨a, cap, e, h1, h2, h3, h4⟩ := rd_strs h
  cases e
  obtain ⟨b, o, rfl, hb, -, -⟩ := h4 0 h0
  refine ⟨rfl, b, o, rfl, hb, fun k hk => ?_⟩
  obtain ⟨b2, o2, e2, -, hc, hs⟩ := h4 k hk
  cases e2
  rw [List.getD_eq_getElem?_getD]
  exact ⟨hc, hs⟩

/-- A list of words handed back, if they are not too many. -/
def AllIs (c N : Nat) (w : World) (e : Ending) (w' : World) : Prop :=
  ∃ v b, e = .returned (.tuple #[v, .bool b]) ∧ (b = true ↔ (allW c N).length ≤ 2000) ∧ (∃ l : List ByteArray, (b = true → l = (allW c N).map strW) ∧ ∃ f, strsE.ow w' [v] l f ∧ f.Nodup ∧ ∀ x, x ∈ f → w.heap.size ≤ x) ∧ Below w.heap.size w w'

theorem madeW_len (c k i j : Nat) (hi : i ≤ (wordsN c k).length) : (madeW c k i j).length = (allW c k).length + i * c + j := by
  unfold madeW
  rw [List.length_append, List.length_append, flatMap_clen _ c (fun w => by simp), List.length_take, Nat.min_eq_left hi]
  simp

theorem allW_last (c k : Nat) : ∃ pre, allW c k = pre ++ wordsN c k ∧ pre.length = (allW c k).length - (wordsN c k).length := by
  cases k with
  | zero => exact ⟨[], rfl, rfl⟩
  | succ k => exact ⟨allW c k, allW_succ c k, by rw [allW_len_succ]; omega⟩

theorem madeW_get (c k i j : Nat) (hi : i < (wordsN c k).length) : (madeW c k i j)[(allW c k).length - (wordsN c k).length + i]? = some ((wordsN c k)[i]?.getD []) := by
  obtain ⟨pre, h1, h2⟩ := allW_last c k
  have hl := wordsN_le c k
  unfold madeW
  rw [List.append_assoc, List.getElem?_append_left (by omega)]
  rw [← h2, h1, List.getElem?_append_right (by omega), Nat.add_sub_cancel_left, List.getElem?_eq_getElem hi]
  rfl

theorem madeW_some {c k i j N : Nat} (hi : i ≤ (wordsN c k).length) (hj : (i < (wordsN c k).length ∧ j ≤ c) ∨ j = 0) (hk : k < N) : (madeW c k i j).length ≤ (allW c N).length := by
  refine Nat.le_trans ?_ (allW_mono c (show k + 1 ≤ N from hk))
  rw [allW_len_succ, madeW_len c k i j hi, wordsN_len]
  rcases hj with ⟨h1, h2⟩ | h1
  · have := Nat.mul_le_mul_right c (show i + 1 ≤ (wordsN c k).length from h1)
    rw [Nat.add_mul] at this
    omega
  · have := Nat.mul_le_mul_right c hi
    omega

theorem strW_snoc (x : List UInt8) (b : UInt8) : strW (x ++ [b]) = strW x ++ ⟨#[b]⟩ := by
  unfold strW
  apply ByteArray.ext
  simp [ByteArray.data_append]

theorem strW_size (x : List UInt8) : (strW x).size = x.length := by unfold strW; show x.toArray.size = _; simp

set_option maxHeartbeats 8000000 in
set_option maxRecDepth 100000 in
theorem l07All_any (c N : Nat) (hc : 1 ≤ c ∧ c ≤ 3) (hN : N ≤ 60) (w : World) : Calls Tryd.prog 27 #[.int .i64 (c : Nat), .int .i64 (N : Nat)] w (AllIs c N w) := by
  have S := ((Star.nil w).alloc (cs := #[.string ⟨#[]⟩]) (ty := 9)).lit (E := strE) [(⟨#[]⟩ : ByteArray)] Value.string rfl rfl (fun x hx => by rw [List.mem_singleton.1 hx]; exact ⟨⟨rfl, by decide⟩, rfl⟩) (by decide)
  go_enter Tryd.func27, Tryd.ntmps27
  go_wp2_with fail
  generalize hW : w.alloc _ = w0 at S ⊢
  clear hW
  go_loopw [6, 7, 8] (fun vo vf vk wr => ∃ (k : Nat) (v : Value), k ≤ N ∧ vo = v ∧ vf = .int .i64 (((allW c k).length - (wordsN c k).length : Nat) : Int) ∧ vk = .int .i64 k ∧ Star w wr [oE strsE [v] ((allW c k).map strW)] ∧ (allW c k).length ≤ 2000) (fun _ _ vk _ => N - (intOf vk).toNat)
  case atStart => exact ⟨0, _, Nat.zero_le _, rfl, rfl, rfl, S, by rw [allW_zero]; exact Nat.le_add_left 1 1999⟩
  case round =>
    clear S
    obtain ⟨k, v, hk, rfl, rfl, rfl, S, hL⟩ := hrel
    obtain ⟨va, vc, rfl⟩ := S.slcN 0 rfl
    rw [List.length_map] at S ⊢
    by_cases hkN : k < N
    case neg =>
      obtain rfl : k = N := by omega
      go_wp2
      obtain ⟨f, o, nd, lo⟩ := S.out
      exact bodyPost_ret (v := .tuple #[.slice va (allW c k).length vc, .bool true]) (by simp [results, Tryd.results27, go_sem]) rfl ⟨_, true, rfl, ⟨fun _ => hL, fun _ => rfl⟩, ⟨_, fun _ => rfl, f, o, nd, lo⟩, S.below⟩
    have hwl := wordsN_le c k
    obtain ⟨T, hT⟩ : ∃ T, T = (allW c k).length := ⟨_, rfl⟩
    obtain ⟨W, hWW⟩ : ∃ W, W = (wordsN c k).length := ⟨_, rfl⟩
    obtain ⟨F, hF⟩ : ∃ F, F = T - W := ⟨_, rfl⟩
    rw [← hT] at hL
    rw [← hT, ← hWW] at hwl ⊢
    rw [← hF]
    have hTF : T = F + W := by omega
    have HT := Lib.hid hT; have HW := Lib.hid hWW; have HF := Lib.hid hF; have HTF := Lib.hid hTF
    clear hT hWW hF hTF
    replace S : Star w wr [oE strsE [.slice va T vc] ((madeW c k 0 0).map strW)] := by rw [madeW_zero]; rw [← HT.out] at S; exact S
    go_wp2
    go_loopw [6, 10] (fun vo vi wr => ∃ (i I : Nat) (v : Value), i ≤ W ∧ vo = v ∧ vi = .int .i64 (I : Nat) ∧ Hid (I = F + i) ∧ Star w wr [oE strsE [v] ((madeW c k i 0).map strW)] ∧ (madeW c k i 0).length ≤ 2000) (fun _ vi _ => T - (intOf vi).toNat)
    case atStart => exact ⟨0, F, _, Nat.zero_le _, rfl, rfl, Lib.hid (Nat.add_zero F).symm, S, by rw [madeW_zero, ← HT.out]; exact hL⟩
    case round =>
      clear S
      obtain ⟨i, I, v, hi, rfl, rfl, HI, S, hL2⟩ := hrel
      obtain ⟨va2, vc2, rfl⟩ := S.slcN 0 rfl
      rw [List.length_map] at S ⊢
      by_cases hiW : i < W
      case neg =>
        obtain rfl : i = W := by omega
        have hfull : madeW c k i 0 = allW c (k + 1) := by rw [HW.out]; exact madeW_all c k
        rw [hfull] at S hL2 ⊢
        have hTi : ¬ (I : Int) < (T : Int) := by rw [HTF.out, HI.out]; omega
        have hnx : (allW c (k + 1)).length - (wordsN c (k + 1)).length = T := by rw [allW_len_succ, ← HT.out]; omega
        have HNX := Lib.hid hnx
        clear hfull hnx
        go_wp2
        go_roundw
        case rel => exact ⟨k + 1, _, by omega, rfl, by rw [HNX.out], by go_num, S, hL2⟩
        case measure => simp [intOf]; omega
      have hTi : (I : Int) < (T : Int) := by rw [HTF.out, HI.out]; omega
      have HTI := Lib.hid hTi
      have HIW := Lib.hid hiW
      go_wp2
      go_loopw [6, 11] (fun vo va wr => ∃ (q : Nat) (v : Value), q ≤ c ∧ vo = v ∧ va = .int .i64 q ∧ Star w wr [oE strsE [v] ((madeW c k i q).map strW)]) (fun _ va _ => c - (intOf va).toNat)
      case atStart => exact ⟨0, _, Nat.zero_le _, rfl, rfl, S⟩
      case round =>
        clear S
        obtain ⟨q, v, ha, rfl, rfl, S⟩ := hrel
        have hml := madeW_len c k i q (by rw [← HW.out]; exact hi)
        have hml0 := madeW_len c k i 0 (by rw [← HW.out]; exact hi)
        have hmla : (madeW c k i q).length = (madeW c k i 0).length + q := by omega
        obtain ⟨va3, vc3, rfl⟩ := S.slcN 0 rfl
        rw [List.length_map] at S ⊢
        have HML := Lib.hid hmla
        clear hml hml0
        by_cases hac : q < c
        case neg =>
          obtain rfl : q = c := by omega
          have hw2 : madeW q k i q = madeW q k (i + 1) 0 := madeW_word q k i (by rw [← HW.out]; exact hiW)
          rw [hw2] at S ⊢
          by_cases hbig : 2000 < (madeW q k (i + 1) 0).length
          · have hbg : (2000 : Int) < ((madeW q k (i + 1) 0).length : Int) := by omega
            have hno : ¬ (allW q N).length ≤ 2000 := by
              have := madeW_some (c := q) (k := k) (i := i + 1) (j := 0) (N := N) (by rw [← HW.out]; omega) (.inr rfl) hkN
              omega
            have HNO := Lib.hid hno
            clear hw2 hbig hno hmla
            go_wp2
            obtain ⟨f, o, nd, lo⟩ := S.out
            exact bodyPost_ret (v := .tuple #[.slice va3 (madeW q k (i + 1) 0).length vc3, .bool false]) (by simp [results, Tryd.results27, go_sem]) rfl ⟨_, false, rfl, ⟨fun h => (by cases h), fun h => absurd h HNO.out⟩, ⟨_, fun h => (by cases h), f, o, nd, lo⟩, S.below⟩
          · have hbg : ¬ (2000 : Int) < ((madeW q k (i + 1) 0).length : Int) := by omega
            clear hw2 hmla
            go_wp2
            go_roundw
            case rel => exact ⟨i + 1, I + 1, _, by omega, rfl, by go_num, Lib.hid (by rw [HI.out]; omega), S, by omega⟩
            case measure => simp [intOf]; have := HTF.out; have := HI.out; omega
        have hget : ((madeW c k i q).map strW)[I]? = some (strW ((wordsN c k)[i]?.getD [])) := by
          rw [List.getElem?_map, HI.out, HF.out, HT.out, HW.out, madeW_get c k i q (by rw [← HW.out]; exact hiW)]
          rfl
        have hfl : I < ((madeW c k i q).map strW).length := (List.getElem?_eq_some_iff.1 hget).1
        obtain ⟨x, hx⟩ : ∃ x, x = (wordsN c k)[i]?.getD [] := ⟨_, rfl⟩
        have hxl : x.length = k := by
          rw [hx, List.getElem?_eq_getElem (by rw [← HW.out]; exact hiW)]
          exact (wordsN_ok c (by omega) k _ (List.getElem_mem _)).2
        have hnext := madeW_letter c k i q
        rw [← hx] at hget hnext
        have hsn := strW_snoc x (UInt8.ofNat (97 + q))
        obtain ⟨d, hd⟩ : ∃ d, d = UInt8.ofNat (97 + q) := ⟨_, rfl⟩
        rw [← hd] at hnext hsn
        have hdn : (d.toNat : Int) = 97 + (q : Int) := by
          rw [hd, UInt8.toNat_ofNat']
          have : (97 + q) % 2 ^ 8 = 97 + q := Nat.mod_eq_of_lt (by omega)
          omega
        have hmap : (madeW c k i (q + 1)).map strW = (madeW c k i q).map strW ++ [strW x ++ ⟨#[d]⟩] := by
          rw [hnext, List.map_append, ← hsn]; rfl
        obtain ⟨X, hX⟩ : ∃ X, X = strW x := ⟨_, rfl⟩
        have hXs : X.size ≤ 60 := by rw [hX, strW_size, hxl]; omega
        rw [← hX] at hget hmap
        obtain ⟨Ls, hLs⟩ : ∃ Ls, Ls = (madeW c k i q).map strW := ⟨_, rfl⟩
        have hLl : Ls.length = (madeW c k i q).length := by rw [hLs, List.length_map]
        have hLm : Ls.length ≤ 1000000000000 := by rw [hLl, HML.out]; omega
        rw [← hLs] at hget hmap hfl S
        rw [← hLl] at S ⊢
        have HMAP := Lib.hid hmap; have HD := Lib.hid hdn
        obtain ⟨gn, gb, go, hgs, hgb, hgc⟩ := strs_cellsA (S.rd 0 rfl) (by omega)
        have hgv := (hgc I hfl).1
        have hgx : Ls.getD I ByteArray.empty = X := by rw [List.getD_eq_getElem?_getD, hget]; rfl
        rw [hgx] at hgv
        subst hgs
        have wa : IntKind.i64.wrap (97 + (q : Int)) = 97 + (q : Int) := IntWalk.i64_in _ ⟨by omega, by omega⟩
        have wb : IntKind.u8.wrap (97 + (q : Int)) = 97 + (q : Int) := IntWalk.u8_in _ ⟨by omega, by omega⟩
        have i1 : (0 : Int) ≤ (I : Int) := by omega
        have i2 : (I : Int) < (Ls.length : Int) := by omega
        have hcat : X.size + (ByteArray.mk #[d]).size ≤ 9223372036854775807 := by show _ + 1 ≤ _; omega
        have hsz : (X ++ (ByteArray.mk #[d])).size ≤ maxLen := by rw [ByteArray.size_append]; show _ + 1 ≤ _; unfold maxLen; omega
        have HSZ := Lib.hid hsz
        clear hnext hsn hd hmap hLs hLl hget hgx hX hxl hx hgc gn hdn hmla hsz
        go_wp2
        refine wp_region_p [] 14 (by kernel_rfl) rfl ?_
        intro w5 b5
        replace S := S.step b5
        have cr := (b5.cell hgb).trans hgv
        have gl1 := World.block_lt_of_cell? w5 _ cr
        have hov := cell_over w5
        clear b5 hgv
        refine wpP_read 0 rfl rfl (by kernel_rfl) rfl (fun _ d _ _ _ h => by cases d <;> exact h) ?_
        go_big_quiet_step (fail)
        refine wpQuiet_nil ?_
        refine wpP_read 1 rfl rfl (by kernel_rfl) rfl (fun _ d _ _ _ h => by cases d <;> exact h) ?_
        go_big_quiet_step (fail)
        refine wpQuiet_nil ?_
        refine wpP_read 2 rfl rfl (by kernel_rfl) rfl (fun _ d _ _ _ h => by cases d <;> exact h) ?_
        go_big_quiet_step (fail)
        refine wpQuiet_nil ?_
        refine wpP_read 3 rfl rfl (by kernel_rfl) rfl (fun _ d _ _ _ h => by cases d <;> exact h) ?_
        go_big_quiet_step (fail)
        refine wpQuiet_nil ?_
        refine wpP_read 4 rfl rfl (by kernel_rfl) rfl (fun _ d _ _ _ h => by cases d <;> exact h) ?_
        go_big_quiet_step (fail)
        refine wpQuiet_nil ?_
        refine wpP_read 5 rfl rfl (by kernel_rfl) rfl (fun _ d _ _ _ h => by cases d <;> exact h) ?_
        go_big_quiet_step (fail)
        refine wpQuiet_nil ?_
        refine wpP_read 6 rfl rfl (by kernel_rfl) rfl (fun _ d _ _ _ h => by cases d <;> exact h) ?_
        go_big_quiet_step (fail)
        refine wpQuiet_nil ?_
        refine wpP_read 7 rfl rfl (by kernel_rfl) rfl (fun _ d _ _ _ h => by cases d <;> exact h) ?_
        go_big_quiet_step (fail)
        refine wpQuiet_nil ?_
        clear cr gl1 hov
        refine wpP_ready [8] (by kernel_rfl) (by decide) (AllP.cons rfl (fun w6 b6 K hK => ?_) AllP.nil)
        go_simp
        have SL := (Star.nil w5).step b6
        refine hK _ _ (.inr (leN.of_le b6.size ((Below.refl w6.heap.size w6).alloc (Nat.le_refl _) _))) ?_
        clear hK K
        replace SL := SL.alloc (cs := #[.int .u8 (97 + (q : Int))]) (ty := 5)
        generalize hW5 : w6.alloc _ = w7 at SL ⊢
        clear hW5 b6
        obtain ⟨ge, hge⟩ : ∃ g, g = w6.heap.size := ⟨_, rfl⟩
        rw [← hge] at SL ⊢
        clear hge
        refine wpP_ready [9] (by kernel_rfl) (by decide) (AllP.cons rfl (fun w8 b8 K hK => ?_) AllP.nil)
        replace SL := SL.step b8
        clear b8
        have z0 := (SL.blk 0 rfl).cell 0 rfl
        have hcv := run_convert_bytes_back (P := Tryd.prog) w8 22 9 5 ⟨ge, 0, none⟩ 1 [d] Tryd.underlying22 Tryd.underlying5 Tryd.underlying9 (fun j hj => by
          obtain rfl : j = 0 := by simpa using hj
          rw [Addr.add_lit]
          have := (SL.blk 0 rfl).cell 0 rfl
          simpa [HD.out] using this)
        have hl1 : [d].length = 1 := rfl
        rw [hl1] at hcv
        go_simp
        refine hK _ _ (.inr (leN.refl SL.below.size)) ?_
        clear hK K hcv z0 hl1
        have X1 := SL.below
        have NB := (leN.of_below (Nat.le_refl _) (Nat.le_refl _) SL.below).hi
        refine wpP_pure 10 rfl rfl (by kernel_rfl) NB (fun _ d _ _ _ h => by cases d <;> exact h) ?_
        go_big_quiet_step (fail)
        refine wpQuiet_nil ?_
        clear NB X1
        refine wpP_ready [11] (by kernel_rfl) (by decide) (AllP.cons rfl (fun w9 b9 K hK => ?_) AllP.nil)
        replace SL := SL.step b9
        have L9 := leN.of_below (Nat.le_refl _) (Nat.le_refl _) SL.below
        go_simp
        refine hK _ _ (.inr (leN.of_le L9.hi ((Below.refl w9.heap.size w9).alloc (Nat.le_refl _) _))) ?_
        clear hK K L9 b9
        replace SL := SL.alloc (cs := #[.string (X ++ (ByteArray.mk #[d]))]) (ty := 9)
        generalize hW6 : w9.alloc _ = w10 at SL ⊢
        clear hW6
        obtain ⟨gq, hgq⟩ : ∃ g, g = w9.heap.size := ⟨_, rfl⟩
        rw [← hgq] at SL ⊢
        clear hgq
        refine wpP_ready [12] (by kernel_rfl) (by decide) (AllP.cons rfl (fun w12 b12 K hK => ?_) AllP.nil)
        replace SL := SL.step b12
        clear b12
        have hq := (SL.blk 0 rfl).cell 0 rfl
        have N12 := SL.below.size
        have SM := ((S.step SL.below).str (x := X ++ (ByteArray.mk #[d])) HSZ.out).sel [1, 0]
        refine sst1z_StringS SM rfl rfl rfl rfl (fun j u hu => by match j, hu with | 0, hu => exact hq.trans hu) (one_mem rfl) hLm ?_
        intro sa sn sc w13 hz S13
        try go_simp
        refine hK _ _ (.inl ⟨alone_of (by kernel_rfl), Nat.le_trans N12 hz⟩) ?_
        have N13 := Nat.le_trans N12 hz
        clear hK K SL hq N12 SM S hz
        refine wpP_pure 13 rfl rfl (by kernel_rfl) N13 (fun _ d _ _ _ h => by cases d <;> exact h) ?_
        go_big_quiet_step (fail)
        refine wpQuiet_nil ?_
        refine wpP_done (by kernel_rfl) (fun w15 b15 => ?_)
        have S15 := S13.step b15
        clear b15 S13 N13
        rw [← HMAP.out] at S15
        go_wp2
        go_roundw
        case rel => exact ⟨q + 1, _, by omega, rfl, by go_num, S15⟩
        case measure => simp [intOf]; omega

end Go.Proofs.YtjochoghmpcgdaaDoor
