/-
  NthLastMany: what the program and the reference answer (written by a program of this claim's own, gen_nthmany.py).
-/
import Derived.Test.YtipandcflcidlaaStates
import Derived.Test.YtipandcflcidlaaStar
import Derived.Test.YtipandcflcidlaaMMany
namespace Go.Proofs.Ytipandcflcidlaa
open Go.RowKit

def nthOk (letters n : Int) : Bool := within letters 1 3 && within n 1 8

theorem isNth_any (letters n : Int) (w : World) : Calls Try.prog 34 #[.int .i64 letters, .int .i64 n] w (Gives (.bool (nthOk letters n)) w) := by
  unfold nthOk
  go_enter Try.func34, Try.ntmps34
  go_wp2_with fail
  refine (isAlphabet_any _ _).mono ?_
  rintro e w1 ⟨rfl, b⟩
  cases h : within letters 1 3
  case false =>
    go_wp2
    go_ret
    exact ⟨by rw [h]; rfl, b⟩
  go_wp2_with fail
  refine (within_k _ _ _ _).mono ?_
  rintro e w2 ⟨rfl, rfl⟩
  go_wp2
  go_ret
  exact ⟨by rw [h]; rfl, b⟩

theorem l06Nth_any (letters n : Int) (w : World) : Calls Try.prog 33 #[.int .i64 letters, .int .i64 n] w (Gives (.bool (nthOk letters n)) w) := by
  unfold nthOk
  go_enter Try.func33, Try.ntmps33
  go_wp2_with fail
  refine (l00In_k _ _ _ _).mono ?_
  rintro e w1 ⟨rfl, rfl⟩
  cases h : within letters 1 3
  case false =>
    go_wp2
    go_ret
    exact ⟨by rw [h]; rfl, Below.refl _ _⟩
  go_wp2_with fail
  refine (l00In_k _ _ _ _).mono ?_
  rintro e w2 ⟨rfl, rfl⟩
  go_wp2
  go_ret
  exact ⟨by rw [h]; rfl, Below.refl _ _⟩

def nthCell (m s a : Nat) : List Int := if s = 0 then (if a = 0 then [0, 1] else [0]) else if s < m then [(s : Int) + 1] else []
def nthRow (l m s : Nat) : List (List Int) := (List.range l).map (nthCell m s)
def nthNext (l m : Nat) : List (List (List Int)) := (List.range (m + 1)).map (nthRow l m)
def nthAcc (m : Nat) : List Bool := (List.range (m + 1)).map fun s => decide (s = m)

def nthLastMany (letters n : Int) : Many × Int := if nthOk letters n then (⟨letters, [0], nthAcc n.toNat, nthNext letters.toNat n.toNat⟩, 0) else (default, 2)

theorem cnt_nthLastMany (letters n : Int) : manyM.cnt (nthLastMany letters n).1 ≤ 4611686018427387000 := by
  unfold nthLastMany
  split
  · rename_i h
    unfold nthOk at h
    rw [Bool.and_eq_true] at h
    have h1 := within_true.1 h.1
    have h2 := within_true.1 h.2
    have hc : ∀ m s a, intsM.cnt (nthCell m s a) ≤ 2 := by intro m s a; unfold nthCell; split <;> (try split) <;> simp [intsM]
    have hr : ∀ l m s, l ≤ 3 → cntL intsM (nthRow l m s) ≤ 6 := by
      intro l m s hl
      have := sum_map_le intsM.cnt 2 (nthRow l m s) (fun x hx => by obtain ⟨a, _, rfl⟩ := List.mem_map.1 hx; exact hc _ _ _)
      have hlen : (nthRow l m s).length = l := by simp [nthRow]
      rw [hlen] at this
      exact Nat.le_trans this (by omega)
    have hn : cntL (listM intsM) (nthNext letters.toNat n.toNat) ≤ 9 * 6 := by
      have := sum_map_le (listM intsM).cnt 6 (nthNext letters.toNat n.toNat) (fun x hx => by obtain ⟨a, _, rfl⟩ := List.mem_map.1 hx; exact hr _ _ _ (by omega))
      have hlen : (nthNext letters.toNat n.toNat).length = n.toNat + 1 := by simp [nthNext]
      rw [hlen] at this
      exact Nat.le_trans this (Nat.mul_le_mul_right _ (by omega))
    have ha : (nthAcc n.toNat).length = n.toNat + 1 := by simp [nthAcc]
    show 1 + (nthAcc n.toNat).length + cntL (listM intsM) (nthNext letters.toNat n.toNat) ≤ _
    omega
  · decide

theorem ow_Many_zero (w : World) : manyE.ow w [.int .i64 0, .slice none 0 0, .slice none 0 0, .slice none 0 0] default [] :=
  ow_Many (r := default) ⟨by decide, by decide⟩ (ow_nil _ _ _) (ow_nil _ _ _) (ow_nil _ _ _)

theorem many_done {w0 w : World} {ps : List Ob} {v1 v2 v3 : Value} {x : Many} {c : Int} (S : Star w0 w (oE intE [.int .i64 x.letters] x.letters :: oE intsE [v1] x.starts :: oE boolsE [v2] x.accept :: oE intsssE [v3] x.next :: ps)) :
    MakesC manyE (x, c) w0 (.returned (.tuple #[.agg #[.int .i64 x.letters, v1, v2, v3], .int .i64 c])) w := by
  have S1 := S.sel [2, 3, 0, 1] (by decide) (by simp)
  have S1 : Star w0 w [oE boolsE [v2] x.accept, oE intsssE [v3] x.next, oE intE [.int .i64 x.letters] x.letters, oE intsE [v1] x.starts] := S1
  have S2 := S1.pair.sel [2, 0, 1]
  have S2 : Star w0 w [oE intsE [v1] x.starts, oE (pairE boolsE intsssE) [v2, v3] (x.accept, x.next), oE intE [.int .i64 x.letters] x.letters] := S2
  have S3 := S2.pair.sel [1, 0]
  have S3 : Star w0 w [oE intE [.int .i64 x.letters] x.letters, oE (pairE intsE (pairE boolsE intsssE)) [v1, v2, v3] (x.starts, x.accept, x.next)] := S3
  exact (S3.pair.via (F := fun r : Many => (r.letters, r.starts, r.accept, r.next)) x rfl).done (x := (x, c))

set_option maxHeartbeats 4000000 in
theorem nthLastMany_is (x : Many × Int) (letters n : Int) (w : World) (hl : -9223372036854775808 ≤ letters ∧ letters ≤ 9223372036854775807) (hn : -9223372036854775808 ≤ n ∧ n ≤ 9223372036854775807) (hx : nthLastMany letters n = x) :
    Calls Try.prog 15 #[.int .i64 letters, .int .i64 n] w (MakesC manyE x w) := by
  have HX := Lib.hid hx
  clear hx
  go_enter Try.func15, Try.ntmps15
  go_wp2_with fail
  have S := (Star.nil w).alloc (cs := #[.int .i64 0, .slice none 0 0, .slice none 0 0, .slice none 0 0]) (ty := 37)
  generalize hW : w.alloc _ = w0 at S ⊢
  clear hW
  refine (isNth_any _ _ _).mono ?_
  rintro e w1 ⟨rfl, b⟩
  replace S := S.step b
  clear b
  have A0 := S.blk 0 rfl
  cases h1 : nthOk letters n
  case false =>
    have c0 := A0.cell 0 rfl
    have c1 := A0.cell 1 rfl
    have c2 := A0.cell 2 rfl
    have c3 := A0.cell 3 rfl
    have f0 := A0.free
    go_wp2
    generalize hW : (((w1.setCell _ _).setCell _ _).setCell _ _).setCell _ _ = w3
    replace S := S.set4 rfl hW
    have A3 := S.blk 0 rfl
    have q0 := A3.cell 0 rfl
    have q1 := A3.cell 1 rfl
    have q2 := A3.cell 2 rfl
    have q3 := A3.cell 3 rfl
    obtain rfl : x = (default, 2) := by rw [← HX.out]; unfold nthLastMany; rw [h1]; rfl
    exact bodyPost_ret (v := .tuple #[.agg #[.int .i64 0, .slice none 0 0, .slice none 0 0, .slice none 0 0], .int .i64 2]) (by simp [results, Try.results15, go_sem, q0, q1, q2, q3]) rfl
      (S.flat (ow_Many_zero _)).done
  have hb := h1
  unfold nthOk at hb
  rw [Bool.and_eq_true] at hb
  have hb1 := within_true.1 hb.1
  have hb2 := within_true.1 hb.2
  obtain ⟨L, rfl⟩ : ∃ L : Nat, letters = L := ⟨letters.toNat, by omega⟩
  obtain ⟨m, rfl⟩ : ∃ m : Nat, n = m := ⟨n.toNat, by omega⟩
  have HX : Hid (x = (⟨L, [0], nthAcc m, nthNext L m⟩, 0)) := Lib.hid (by rw [← HX.out]; unfold nthLastMany; rw [h1]; rfl)
  clear h1 hb A0
  have hL : L ≤ 3 := by omega
  have hm : m ≤ 8 := by omega
  have hL1 : 1 ≤ L := by omega
  have hm1 : 1 ≤ m := by omega
  clear hb1 hb2 hl hn
  replace S := (S.alloc (cs := #[.int .i64 0]) (ty := 2)).lit (E := intE) [0] (fun x => Value.int .i64 x) rfl rfl (int_in 0 bd0 _) (by simp [maxLen])
  replace S := S.alloc (cs := #[.int .i64 L, .slice (some ⟨w1.heap.size, 0, none⟩) 1 1, .slice none 0 0, .slice none 0 0]) (ty := 37)
  rw [World.size_alloc] at S
  go_wp2
  generalize hW : (w1.alloc _).alloc _ = w3 at S ⊢
  clear hW
  replace S : Star w w3 [oB w.heap.size [.int .i64 0, .slice none 0 0, .slice none 0 0, .slice none 0 0] 37, oB (w1.heap.size + 1) [.int .i64 L, .slice (some ⟨w1.heap.size, 0, none⟩) 1 1, .slice none 0 0, .slice none 0 0] 37, oE intsE [.slice (some ⟨w1.heap.size, 0, none⟩) 1 1] [0], oE boolsE [.slice none 0 0] ([] : List Bool), oE intsssE [.slice none 0 0] ([] : List (List (List Int)))] := by
    have := ((S.nils intssE 23).nils boolE 4).sel [4, 2, 3, 0, 1]
    simpa using this
  go_loopw [21] (fun s wr => ∃ k : Nat, ∃ va vn, k ≤ m + 1 ∧ s = .int .i64 k ∧ Star w wr [oB w.heap.size [.int .i64 0, .slice none 0 0, .slice none 0 0, .slice none 0 0] 37, oB (w1.heap.size + 1) [.int .i64 L, .slice (some ⟨w1.heap.size, 0, none⟩) 1 1, va, vn] 37, oE intsE [.slice (some ⟨w1.heap.size, 0, none⟩) 1 1] [0], oE boolsE [va] ((nthAcc m).take k), oE intsssE [vn] ((nthNext L m).take k)]) (fun s _ => m + 1 - (intOf s).toNat)
  case atStart => exact ⟨0, .slice none 0 0, .slice none 0 0, by omega, rfl, S⟩
  case round =>
    clear S
    obtain ⟨k, va, vn, hk, rfl, S⟩ := hrel
    obtain ⟨aa, an, ac, rfl⟩ := S.slc 3 rfl
    obtain ⟨na, nn, nc, rfl⟩ := S.slc 4 rfl
    by_cases hlt : k < m + 1
    case neg =>
      obtain rfl : k = m + 1 := by omega
      have A0 := S.blk 0 rfl
      have X0 := S.blk 1 rfl
      have c0 := X0.cell 0 rfl
      have c1 := X0.cell 1 rfl
      have c2 := X0.cell 2 rfl
      have c3 := X0.cell 3 rfl
      have d0 := A0.cell 0 rfl
      have d1 := A0.cell 1 rfl
      have d2 := A0.cell 2 rfl
      have d3 := A0.cell 3 rfl
      have df := A0.free
      go_wp2
      generalize hW : (((wr.setCell _ _).setCell _ _).setCell _ _).setCell _ _ = w5
      replace S := S.set4 rfl hW
      have A3 := S.blk 0 rfl
      have q0 := A3.cell 0 rfl
      have q1 := A3.cell 1 rfl
      have q2 := A3.cell 2 rfl
      have q3 := A3.cell 3 rfl
      have ha := take_range_all (fun s => decide (s = m)) (m + 1)
      have hn' := take_range_all (nthRow L m) (m + 1)
      have S2 : Star w w5 [oE intE [.int .i64 L] (L : Int), oE intsE [.slice (some ⟨w1.heap.size, 0, none⟩) 1 1] [0], oE boolsE [.slice aa an ac] (nthAcc m), oE intsssE [.slice na nn nc] (nthNext L m)] := by
        have := (S.sel [2, 3, 4]).int (x := (L : Int)) ⟨by omega, by omega⟩
        unfold nthAcc nthNext at this ⊢
        rw [← ha, ← hn']
        simpa using this
      obtain rfl := HX.out
      exact bodyPost_ret (v := .tuple #[.agg #[.int .i64 L, .slice (some ⟨w1.heap.size, 0, none⟩) 1 1, .slice aa an ac, .slice na nn nc], .int .i64 0]) (by simp [results, Try.results15, go_sem, q0, q1, q2, q3]) rfl (many_done S2)
    replace S := (S.alloc (cs := #[]) (ty := 34)).lit0 (α := List Int) (E := intsE)
    go_wp2
    generalize hW : wr.alloc _ = wa at S ⊢
    clear hW
    go_loopw [8, 26] (fun vs s wr => ∃ c : Nat, ∃ vl, c ≤ L ∧ vs = vl ∧ s = .int .i64 c ∧ Star w wr [oE intssE [vl] ((nthRow L m k).take c), oB w.heap.size [.int .i64 0, .slice none 0 0, .slice none 0 0, .slice none 0 0] 37, oB (w1.heap.size + 1) [.int .i64 L, .slice (some ⟨w1.heap.size, 0, none⟩) 1 1, .slice aa an ac, .slice na nn nc] 37, oE intsE [.slice (some ⟨w1.heap.size, 0, none⟩) 1 1] [0], oE boolsE [.slice aa an ac] ((nthAcc m).take k), oE intsssE [.slice na nn nc] ((nthNext L m).take k)]) (fun _ s _ => L - (intOf s).toNat)
    case atStart => exact ⟨0, _, by omega, rfl, rfl, S⟩
    case round =>
      clear S
      obtain ⟨c, vl, hc, rfl, rfl, S⟩ := hrel
      obtain ⟨la, ln, lc, rfl⟩ := S.slc 0 rfl
      by_cases hcl : c < L
      case neg =>
        obtain rfl : c = L := by omega
        have hrow : (nthRow c m k).take c = nthRow c m k := take_range_all _ _
        rw [hrow] at S
        clear hrow
        have c3 := (S.blk 2 rfl).cell 3 rfl
        have hkt : (((k : Nat) : Int) == ((m : Nat) : Int)) = decide (k = m) := by by_cases h : k = m <;> simp [h] <;> omega
        have hkb : (decide (((k : Nat) : Int) = ((m : Nat) : Int))) = decide (k = m) := by by_cases h : k = m <;> simp [h] <;> omega
        obtain ⟨bb, hbb⟩ : ∃ b, b = decide (k = m) := ⟨_, rfl⟩
        have hlN : ((nthNext c m).take k).length ≤ 1000000000000 := Nat.le_trans (List.length_take_le _ _) (by omega)
        have hlA : ((nthAcc m).take k).length ≤ 1000000000000 := Nat.le_trans (List.length_take_le _ _) (by omega)
        have hN := take_range_map (nthRow c m) (m + 1) k hlt
        have hA := take_range_map (fun s => decide (s = m)) (m + 1) k hlt
        have HN := Lib.hid hN; clear hN
        have HA := Lib.hid hA; clear hA
        by_cases hkm : k = m
        case pos =>
          have hbv : decide (k = m) = true := by simp [hkm]
          have SA := (S.alloc (cs := #[.slice la ln lc]) (ty := 23)).sel [6, 1, 2, 3, 4, 5]
          go_wp2_with (first
            | (at_builtin
               refine st1_Int64SSS SA rfl rfl rfl rfl cell_a1 (one_mem rfl) hlN ?_
               intro sa sn sc w9 S9
               have d3 := (S9.blk 2 rfl).cell 3 rfl
               have d2 := (S9.blk 2 rfl).cell 2 rfl
               have df := (S9.blk 2 rfl).free
               have SB := (((((S9.sel [2, 0, 1, 3, 4]).set 3 (.slice sa sn sc)).alloc (cs := #[.bool true]) (ty := 4)).bool (x := true)).sel [6, 0, 2, 3, 4, 5]))
            | (at_builtin
               refine st1_BoolS SB rfl rfl rfl rfl cell_s1 (one_mem rfl) hlA ?_
               intro ta tn tc w10 S10
               have d2 := (S10.blk 1 rfl).cell 2 rfl
               have df := (S10.blk 1 rfl).free))
          have S11 := ((S10.sel [1, 3, 4, 0, 2]).set 2 (.slice ta tn tc)).sel [1, 0, 2, 3, 4]
          go_roundw
          case rel => exact ⟨k + 1, _, _, by omega, by go_num, by unfold nthAcc nthNext; rw [HN.out, HA.out, hbv]; exact S11⟩
          case measure => simp [intOf]; omega
        case neg =>
          have hbv : decide (k = m) = false := by simp [hkm]
          have SA := (S.alloc (cs := #[.slice la ln lc]) (ty := 23)).sel [6, 1, 2, 3, 4, 5]
          go_wp2_with (first
            | (at_builtin
               refine st1_Int64SSS SA rfl rfl rfl rfl cell_a1 (one_mem rfl) hlN ?_
               intro sa sn sc w9 S9
               have d3 := (S9.blk 2 rfl).cell 3 rfl
               have d2 := (S9.blk 2 rfl).cell 2 rfl
               have df := (S9.blk 2 rfl).free
               have SB := (((((S9.sel [2, 0, 1, 3, 4]).set 3 (.slice sa sn sc)).alloc (cs := #[.bool false]) (ty := 4)).bool (x := false)).sel [6, 0, 2, 3, 4, 5]))
            | (at_builtin
               refine st1_BoolS SB rfl rfl rfl rfl cell_s1 (one_mem rfl) hlA ?_
               intro ta tn tc w10 S10
               have d2 := (S10.blk 1 rfl).cell 2 rfl
               have df := (S10.blk 1 rfl).free))
          have S11 := ((S10.sel [1, 3, 4, 0, 2]).set 2 (.slice ta tn tc)).sel [1, 0, 2, 3, 4]
          go_roundw
          case rel => exact ⟨k + 1, _, _, by omega, by go_num, by unfold nthAcc nthNext; rw [HN.out, HA.out, hbv]; exact S11⟩
          case measure => simp [intOf]; omega
      have hlL : ((nthRow L m k).take c).length ≤ 1000000000000 := Nat.le_trans (List.length_take_le _ _) (by omega)
      have hR := take_range_map (nthCell m k) L c hcl
      have HR := Lib.hid hR; clear hR
      by_cases hk0 : k = 0
      case pos =>
        have t1 : ((k : Int) == 0) = true := by simp; omega
        have t2 : ¬ 0 < k := by omega
        have t3 : decide (0 < (k : Int)) = false := by simp; omega
        by_cases hc0 : c = 0
        case pos =>
          have t4 : ((c : Int) == 0) = true := by simp; omega
          have hcell : nthCell m k c = [0, (k : Int) + 1] := by subst hk0; subst hc0; rfl
          have K0 := Lib.hid hk0; have C0 := Lib.hid hc0; have HCELL := Lib.hid hcell
          clear hk0 hc0 hcell
          have SA := ((((S.alloc (cs := #[]) (ty := 2)).lit0 (α := Int) (E := intE)).alloc (cs := #[.int .i64 0]) (ty := 2)).int (x := 0) bd0).sel [2, 0, 3, 4, 5, 6, 7, 8]
          go_wp2_with (first
            | (at_builtin
               refine st1_Int64S SA rfl rfl rfl rfl cell_a2 (one_mem rfl) (by simp) ?_
               intro sa sn sc w9 S9
               have SB := ((S9.alloc (cs := #[.int .i64 ((k : Int) + 1)]) (ty := 2)).int (x := (k : Int) + 1) ⟨by omega, by omega⟩).sel [2, 0, 3, 4, 5, 6, 7, 8])
            | (at_builtin
               refine st1_Int64S SB rfl rfl rfl rfl cell_a1 (one_mem rfl) (by simp) ?_
               intro sa sn sc w9 S9
               have SC := (S9.alloc (cs := #[.slice sa sn sc]) (ty := 34)).sel [2, 1, 3, 4, 5, 6, 7])
            | (at_builtin
               refine st1_Int64SS SC rfl rfl rfl rfl cell_a1 (one_mem rfl) hlL ?_
               intro ta tn tc w11 S11))
          go_roundw
          case rel => exact ⟨.slice ta tn tc, _, _, .int .i64 ((c : Int) + 1), ⟨c + 1, by omega, by go_num, by unfold nthRow; rw [HR.out, HCELL.out]; exact S11⟩, rfl, rfl, rfl, rfl⟩
          case measure => simp [intOf]; omega
        case neg =>
          have t4 : ((c : Int) == 0) = false := by simp; omega
          have hcell : nthCell m k c = [0] := by subst hk0; unfold nthCell; rw [if_pos rfl, if_neg hc0]
          have K0 := Lib.hid hk0; have HCELL := Lib.hid hcell
          clear hk0 hc0 hcell
          have SA := ((((S.alloc (cs := #[]) (ty := 2)).lit0 (α := Int) (E := intE)).alloc (cs := #[.int .i64 0]) (ty := 2)).int (x := 0) bd0).sel [2, 0, 3, 4, 5, 6, 7, 8]
          go_wp2_with (first
            | (at_builtin
               refine st1_Int64S SA rfl rfl rfl rfl cell_a2 (one_mem rfl) (by simp) ?_
               intro sa sn sc w9 S9
               have SC := (S9.alloc (cs := #[.slice sa sn sc]) (ty := 34)).sel [2, 1, 3, 4, 5, 6, 7])
            | (at_builtin
               refine st1_Int64SS SC rfl rfl rfl rfl cell_a1 (one_mem rfl) hlL ?_
               intro ta tn tc w11 S11))
          go_roundw
          case rel => exact ⟨.slice ta tn tc, _, _, .int .i64 ((c : Int) + 1), ⟨c + 1, by omega, by go_num, by unfold nthRow; rw [HR.out, HCELL.out]; exact S11⟩, rfl, rfl, rfl, rfl⟩
          case measure => simp [intOf]; omega
      case neg =>
        have t1 : ((k : Int) == 0) = false := by simp; omega
        have t2 : 0 < k := by omega
        by_cases hkm : k < m
        case pos =>
          have hcell : nthCell m k c = [(k : Int) + 1] := by unfold nthCell; rw [if_neg hk0, if_pos hkm]
          have HCELL := Lib.hid hcell
          clear hk0 hcell
          have SA := ((((S.alloc (cs := #[]) (ty := 2)).lit0 (α := Int) (E := intE)).alloc (cs := #[.int .i64 ((k : Int) + 1)]) (ty := 2)).int (x := ((k : Int) + 1)) ⟨by omega, by omega⟩).sel [2, 0, 3, 4, 5, 6, 7, 8]
          go_wp2_with (first
            | (at_builtin
               refine st1_Int64S SA rfl rfl rfl rfl cell_a2 (one_mem rfl) (by simp) ?_
               intro sa sn sc w9 S9
               have SC := (S9.alloc (cs := #[.slice sa sn sc]) (ty := 34)).sel [2, 1, 3, 4, 5, 6, 7])
            | (at_builtin
               refine st1_Int64SS SC rfl rfl rfl rfl cell_a1 (one_mem rfl) hlL ?_
               intro ta tn tc w11 S11))
          go_roundw
          case rel => exact ⟨.slice ta tn tc, _, _, .int .i64 ((c : Int) + 1), ⟨c + 1, by omega, by go_num, by unfold nthRow; rw [HR.out, HCELL.out]; exact S11⟩, rfl, rfl, rfl, rfl⟩
          case measure => simp [intOf]; omega
        case neg =>
          have hcell : nthCell m k c = [] := by unfold nthCell; rw [if_neg hk0, if_neg hkm]
          have HCELL := Lib.hid hcell
          clear hk0 hcell
          have SC := (((S.alloc (cs := #[]) (ty := 2)).lit0 (α := Int) (E := intE)).alloc (cs := #[.slice (some ⟨wr.heap.size, 0, none⟩) 0 0]) (ty := 34)).sel [2, 1, 3, 4, 5, 6, 7]
          go_wp2_with (first
            | (at_builtin
               refine st1_Int64SS SC rfl rfl rfl rfl cell_a2 (one_mem rfl) hlL ?_
               intro ta tn tc w11 S11))
          go_roundw
          case rel => exact ⟨.slice ta tn tc, _, _, .int .i64 ((c : Int) + 1), ⟨c + 1, by omega, by go_num, by unfold nthRow; rw [HR.out, HCELL.out]; exact S11⟩, rfl, rfl, rfl, rfl⟩
          case measure => simp [intOf]; omega

set_option maxHeartbeats 4000000 in
theorem specNthLastMany_is (x : Many × Int) (letters n : Int) (w : World) (hl : -9223372036854775808 ≤ letters ∧ letters ≤ 9223372036854775807) (hn : -9223372036854775808 ≤ n ∧ n ≤ 9223372036854775807) (hx : nthLastMany letters n = x) :
    Calls Try.prog 14 #[.int .i64 letters, .int .i64 n] w (MakesC manyE x w) := by
  have HX := Lib.hid hx
  clear hx
  go_enter Try.func14, Try.ntmps14
  go_wp2_with fail
  have S := (Star.nil w).alloc (cs := #[.int .i64 0, .slice none 0 0, .slice none 0 0, .slice none 0 0]) (ty := 37)
  generalize hW : w.alloc _ = w0 at S ⊢
  clear hW
  refine (l06Nth_any _ _ _).mono ?_
  rintro e w1 ⟨rfl, b⟩
  replace S := S.step b
  clear b
  have A0 := S.blk 0 rfl
  cases h1 : nthOk letters n
  case false =>
    have c0 := A0.cell 0 rfl
    have c1 := A0.cell 1 rfl
    have c2 := A0.cell 2 rfl
    have c3 := A0.cell 3 rfl
    have f0 := A0.free
    go_wp2
    generalize hW : (((w1.setCell _ _).setCell _ _).setCell _ _).setCell _ _ = w3
    replace S := S.set4 rfl hW
    have A3 := S.blk 0 rfl
    have q0 := A3.cell 0 rfl
    have q1 := A3.cell 1 rfl
    have q2 := A3.cell 2 rfl
    have q3 := A3.cell 3 rfl
    obtain rfl : x = (default, 2) := by rw [← HX.out]; unfold nthLastMany; rw [h1]; rfl
    exact bodyPost_ret (v := .tuple #[.agg #[.int .i64 0, .slice none 0 0, .slice none 0 0, .slice none 0 0], .int .i64 2]) (by simp [results, Try.results14, go_sem, q0, q1, q2, q3]) rfl
      (S.flat (ow_Many_zero _)).done
  have hb := h1
  unfold nthOk at hb
  rw [Bool.and_eq_true] at hb
  have hb1 := within_true.1 hb.1
  have hb2 := within_true.1 hb.2
  obtain ⟨L, rfl⟩ : ∃ L : Nat, letters = L := ⟨letters.toNat, by omega⟩
  obtain ⟨m, rfl⟩ : ∃ m : Nat, n = m := ⟨n.toNat, by omega⟩
  have HX : Hid (x = (⟨L, [0], nthAcc m, nthNext L m⟩, 0)) := Lib.hid (by rw [← HX.out]; unfold nthLastMany; rw [h1]; rfl)
  clear h1 hb A0
  have hL : L ≤ 3 := by omega
  have hm : m ≤ 8 := by omega
  have hL1 : 1 ≤ L := by omega
  have hm1 : 1 ≤ m := by omega
  clear hb1 hb2 hl hn
  replace S := (S.alloc (cs := #[.int .i64 0]) (ty := 2)).lit (E := intE) [0] (fun x => Value.int .i64 x) rfl rfl (int_in 0 bd0 _) (by simp [maxLen])
  replace S := S.alloc (cs := #[.int .i64 L, .slice (some ⟨w1.heap.size, 0, none⟩) 1 1, .slice none 0 0, .slice none 0 0]) (ty := 37)
  rw [World.size_alloc] at S
  go_wp2
  generalize hW : (w1.alloc _).alloc _ = w3 at S ⊢
  clear hW
  replace S : Star w w3 [oB w.heap.size [.int .i64 0, .slice none 0 0, .slice none 0 0, .slice none 0 0] 37, oB (w1.heap.size + 1) [.int .i64 L, .slice (some ⟨w1.heap.size, 0, none⟩) 1 1, .slice none 0 0, .slice none 0 0] 37, oE intsE [.slice (some ⟨w1.heap.size, 0, none⟩) 1 1] [0], oE boolsE [.slice none 0 0] ([] : List Bool), oE intsssE [.slice none 0 0] ([] : List (List (List Int)))] := by
    have := ((S.nils intssE 23).nils boolE 4).sel [4, 2, 3, 0, 1]
    simpa using this
  go_loopw [7] (fun s wr => ∃ k : Nat, ∃ va vn, k ≤ m + 1 ∧ s = .int .i64 k ∧ Star w wr [oB w.heap.size [.int .i64 0, .slice none 0 0, .slice none 0 0, .slice none 0 0] 37, oB (w1.heap.size + 1) [.int .i64 L, .slice (some ⟨w1.heap.size, 0, none⟩) 1 1, va, vn] 37, oE intsE [.slice (some ⟨w1.heap.size, 0, none⟩) 1 1] [0], oE boolsE [va] ((nthAcc m).take k), oE intsssE [vn] ((nthNext L m).take k)]) (fun s _ => m + 1 - (intOf s).toNat)
  case atStart => exact ⟨0, .slice none 0 0, .slice none 0 0, by omega, rfl, S⟩
  case round =>
    clear S
    obtain ⟨k, va, vn, hk, rfl, S⟩ := hrel
    obtain ⟨aa, an, ac, rfl⟩ := S.slc 3 rfl
    obtain ⟨na, nn, nc, rfl⟩ := S.slc 4 rfl
    by_cases hlt : k < m + 1
    case neg =>
      obtain rfl : k = m + 1 := by omega
      have A0 := S.blk 0 rfl
      have X0 := S.blk 1 rfl
      have c0 := X0.cell 0 rfl
      have c1 := X0.cell 1 rfl
      have c2 := X0.cell 2 rfl
      have c3 := X0.cell 3 rfl
      have d0 := A0.cell 0 rfl
      have d1 := A0.cell 1 rfl
      have d2 := A0.cell 2 rfl
      have d3 := A0.cell 3 rfl
      have df := A0.free
      go_wp2
      generalize hW : (((wr.setCell _ _).setCell _ _).setCell _ _).setCell _ _ = w5
      replace S := S.set4 rfl hW
      have A3 := S.blk 0 rfl
      have q0 := A3.cell 0 rfl
      have q1 := A3.cell 1 rfl
      have q2 := A3.cell 2 rfl
      have q3 := A3.cell 3 rfl
      have ha := take_range_all (fun s => decide (s = m)) (m + 1)
      have hn' := take_range_all (nthRow L m) (m + 1)
      have S2 : Star w w5 [oE intE [.int .i64 L] (L : Int), oE intsE [.slice (some ⟨w1.heap.size, 0, none⟩) 1 1] [0], oE boolsE [.slice aa an ac] (nthAcc m), oE intsssE [.slice na nn nc] (nthNext L m)] := by
        have := (S.sel [2, 3, 4]).int (x := (L : Int)) ⟨by omega, by omega⟩
        unfold nthAcc nthNext at this ⊢
        rw [← ha, ← hn']
        simpa using this
      obtain rfl := HX.out
      exact bodyPost_ret (v := .tuple #[.agg #[.int .i64 L, .slice (some ⟨w1.heap.size, 0, none⟩) 1 1, .slice aa an ac, .slice na nn nc], .int .i64 0]) (by simp [results, Try.results14, go_sem, q0, q1, q2, q3]) rfl (many_done S2)
    replace S := (S.alloc (cs := #[]) (ty := 34)).lit0 (α := List Int) (E := intsE)
    go_wp2
    generalize hW : wr.alloc _ = wa at S ⊢
    clear hW
    go_loopw [8, 9] (fun vs s wr => ∃ c : Nat, ∃ vl, c ≤ L ∧ vs = vl ∧ s = .int .i64 c ∧ Star w wr [oE intssE [vl] ((nthRow L m k).take c), oB w.heap.size [.int .i64 0, .slice none 0 0, .slice none 0 0, .slice none 0 0] 37, oB (w1.heap.size + 1) [.int .i64 L, .slice (some ⟨w1.heap.size, 0, none⟩) 1 1, .slice aa an ac, .slice na nn nc] 37, oE intsE [.slice (some ⟨w1.heap.size, 0, none⟩) 1 1] [0], oE boolsE [.slice aa an ac] ((nthAcc m).take k), oE intsssE [.slice na nn nc] ((nthNext L m).take k)]) (fun _ s _ => L - (intOf s).toNat)
    case atStart => exact ⟨0, _, by omega, rfl, rfl, S⟩
    case round =>
      clear S
      obtain ⟨c, vl, hc, rfl, rfl, S⟩ := hrel
      obtain ⟨la, ln, lc, rfl⟩ := S.slc 0 rfl
      by_cases hcl : c < L
      case neg =>
        obtain rfl : c = L := by omega
        have hrow : (nthRow c m k).take c = nthRow c m k := take_range_all _ _
        rw [hrow] at S
        clear hrow
        have c3 := (S.blk 2 rfl).cell 3 rfl
        have hkt : (((k : Nat) : Int) == ((m : Nat) : Int)) = decide (k = m) := by by_cases h : k = m <;> simp [h] <;> omega
        have hkb : (decide (((k : Nat) : Int) = ((m : Nat) : Int))) = decide (k = m) := by by_cases h : k = m <;> simp [h] <;> omega
        obtain ⟨bb, hbb⟩ : ∃ b, b = decide (k = m) := ⟨_, rfl⟩
        have hlN : ((nthNext c m).take k).length ≤ 1000000000000 := Nat.le_trans (List.length_take_le _ _) (by omega)
        have hlA : ((nthAcc m).take k).length ≤ 1000000000000 := Nat.le_trans (List.length_take_le _ _) (by omega)
        have hN := take_range_map (nthRow c m) (m + 1) k hlt
        have hA := take_range_map (fun s => decide (s = m)) (m + 1) k hlt
        have HN := Lib.hid hN; clear hN
        have HA := Lib.hid hA; clear hA
        by_cases hkm : k = m
        case pos =>
          have hbv : decide (k = m) = true := by simp [hkm]
          have SA := (S.alloc (cs := #[.slice la ln lc]) (ty := 23)).sel [6, 1, 2, 3, 4, 5]
          go_wp2_with (first
            | (at_builtin
               refine st1_Int64SSS SA rfl rfl rfl rfl cell_a1 (one_mem rfl) hlN ?_
               intro sa sn sc w9 S9
               have d3 := (S9.blk 2 rfl).cell 3 rfl
               have d2 := (S9.blk 2 rfl).cell 2 rfl
               have df := (S9.blk 2 rfl).free
               have SB := (((((S9.sel [2, 0, 1, 3, 4]).set 3 (.slice sa sn sc)).alloc (cs := #[.bool true]) (ty := 4)).bool (x := true)).sel [6, 0, 2, 3, 4, 5]))
            | (at_builtin
               refine st1_BoolS SB rfl rfl rfl rfl cell_s1 (one_mem rfl) hlA ?_
               intro ta tn tc w10 S10
               have d2 := (S10.blk 1 rfl).cell 2 rfl
               have df := (S10.blk 1 rfl).free))
          have S11 := ((S10.sel [1, 3, 4, 0, 2]).set 2 (.slice ta tn tc)).sel [1, 0, 2, 3, 4]
          go_roundw
          case rel => exact ⟨k + 1, _, _, by omega, by go_num, by unfold nthAcc nthNext; rw [HN.out, HA.out, hbv]; exact S11⟩
          case measure => simp [intOf]; omega
        case neg =>
          have hbv : decide (k = m) = false := by simp [hkm]
          have SA := (S.alloc (cs := #[.slice la ln lc]) (ty := 23)).sel [6, 1, 2, 3, 4, 5]
          go_wp2_with (first
            | (at_builtin
               refine st1_Int64SSS SA rfl rfl rfl rfl cell_a1 (one_mem rfl) hlN ?_
               intro sa sn sc w9 S9
               have d3 := (S9.blk 2 rfl).cell 3 rfl
               have d2 := (S9.blk 2 rfl).cell 2 rfl
               have df := (S9.blk 2 rfl).free
               have SB := (((((S9.sel [2, 0, 1, 3, 4]).set 3 (.slice sa sn sc)).alloc (cs := #[.bool false]) (ty := 4)).bool (x := false)).sel [6, 0, 2, 3, 4, 5]))
            | (at_builtin
               refine st1_BoolS SB rfl rfl rfl rfl cell_s1 (one_mem rfl) hlA ?_
               intro ta tn tc w10 S10
               have d2 := (S10.blk 1 rfl).cell 2 rfl
               have df := (S10.blk 1 rfl).free))
          have S11 := ((S10.sel [1, 3, 4, 0, 2]).set 2 (.slice ta tn tc)).sel [1, 0, 2, 3, 4]
          go_roundw
          case rel => exact ⟨k + 1, _, _, by omega, by go_num, by unfold nthAcc nthNext; rw [HN.out, HA.out, hbv]; exact S11⟩
          case measure => simp [intOf]; omega
      have hlL : ((nthRow L m k).take c).length ≤ 1000000000000 := Nat.le_trans (List.length_take_le _ _) (by omega)
      have hR := take_range_map (nthCell m k) L c hcl
      have HR := Lib.hid hR; clear hR
      by_cases hk0 : k = 0
      case pos =>
        have t1 : ((k : Int) == 0) = true := by simp; omega
        by_cases hc0 : c = 0
        case pos =>
          have t4 : ((c : Int) == 0) = true := by simp; omega
          have hcell : nthCell m k c = [0, 1] := by subst hk0; subst hc0; rfl
          have HCELL := Lib.hid hcell
          clear hk0 hc0 hcell
          have SC := (((S.alloc (cs := #[.int .i64 0, .int .i64 1]) (ty := 2)).lit (E := intE) [0, 1] (fun x => Value.int .i64 x) rfl rfl (int_in2 0 1 bd0 bd1 _) (by simp [maxLen])).alloc (cs := #[.slice (some ⟨wr.heap.size, 0, none⟩) 2 2]) (ty := 34)).sel [2, 1, 3, 4, 5, 6, 7]
          go_wp2_with (first
            | (at_builtin
               refine st1_Int64SS SC rfl rfl rfl rfl cell_a2 (one_mem rfl) hlL ?_
               intro ta tn tc w11 S11))
          go_roundw
          case rel => exact ⟨c + 1, by omega, by go_num, by unfold nthRow; rw [HR.out, HCELL.out]; exact S11⟩
          case measure => simp [intOf]; omega
        case neg =>
          have t4 : ((c : Int) == 0) = false := by simp; omega
          have hcell : nthCell m k c = [0] := by subst hk0; unfold nthCell; rw [if_pos rfl, if_neg hc0]
          have HCELL := Lib.hid hcell
          clear hk0 hc0 hcell
          have SC := (((S.alloc (cs := #[.int .i64 0]) (ty := 2)).lit (E := intE) [0] (fun x => Value.int .i64 x) rfl rfl (int_in 0 bd0 _) (by simp [maxLen])).alloc (cs := #[.slice (some ⟨wr.heap.size, 0, none⟩) 1 1]) (ty := 34)).sel [2, 1, 3, 4, 5, 6, 7]
          go_wp2_with (first
            | (at_builtin
               refine st1_Int64SS SC rfl rfl rfl rfl cell_a2 (one_mem rfl) hlL ?_
               intro ta tn tc w11 S11))
          go_roundw
          case rel => exact ⟨c + 1, by omega, by go_num, by unfold nthRow; rw [HR.out, HCELL.out]; exact S11⟩
          case measure => simp [intOf]; omega
      case neg =>
        have t1 : ((k : Int) == 0) = false := by simp; omega
        by_cases hkm : k < m
        case pos =>
          have hcell : nthCell m k c = [(k : Int) + 1] := by unfold nthCell; rw [if_neg hk0, if_pos hkm]
          have HCELL := Lib.hid hcell
          clear hk0 hcell
          have SC := (((S.alloc (cs := #[.int .i64 ((k : Int) + 1)]) (ty := 2)).lit (E := intE) [((k : Int) + 1)] (fun x => Value.int .i64 x) rfl rfl (int_in ((k : Int) + 1) ⟨by omega, by omega⟩ _) (by simp [maxLen])).alloc (cs := #[.slice (some ⟨wr.heap.size, 0, none⟩) 1 1]) (ty := 34)).sel [2, 1, 3, 4, 5, 6, 7]
          go_wp2_with (first
            | (at_builtin
               refine st1_Int64SS SC rfl rfl rfl rfl cell_a2 (one_mem rfl) hlL ?_
               intro ta tn tc w11 S11))
          go_roundw
          case rel => exact ⟨c + 1, by omega, by go_num, by unfold nthRow; rw [HR.out, HCELL.out]; exact S11⟩
          case measure => simp [intOf]; omega
        case neg =>
          have hcell : nthCell m k c = [] := by unfold nthCell; rw [if_neg hk0, if_neg hkm]
          have HCELL := Lib.hid hcell
          clear hk0 hcell
          have SC := (((S.alloc (cs := #[]) (ty := 2)).lit0 (α := Int) (E := intE)).alloc (cs := #[.slice (some ⟨wr.heap.size, 0, none⟩) 0 0]) (ty := 34)).sel [2, 1, 3, 4, 5, 6, 7]
          go_wp2_with (first
            | (at_builtin
               refine st1_Int64SS SC rfl rfl rfl rfl cell_a2 (one_mem rfl) hlL ?_
               intro ta tn tc w11 S11))
          go_roundw
          case rel => exact ⟨c + 1, by omega, by go_num, by unfold nthRow; rw [HR.out, HCELL.out]; exact S11⟩
          case measure => simp [intOf]; omega

end Go.Proofs.Ytipandcflcidlaa
