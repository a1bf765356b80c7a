/-
  CopyWriter of the reference: the moves and texts of one state (written by a program of this claim's own, gen_copy.py).
-/
import Derived.Test.YtfamhnogpcmbmaaGreatDoorSpecBackK
import Derived.Test.YtfamhnogpcmbmaaGreatDoorCopyDefK
namespace Go.Proofs.YtfamhnogpcmbmaaGreatDoor
open Go.RowKit

set_option maxHeartbeats 4000000 in
set_option maxRecDepth 100000 in
theorem passE (L s : Nat) (et ed : Int) (hL : L ≤ 3) (hs : s ≤ 23) (het : -1 ≤ et ∧ et ≤ 30) (hed : -1 ≤ ed ∧ ed ≤ 1) (w : World) : Calls Tryz.prog 73 #[.int .i64 L, .int .i64 s, .int .i64 1, .bool true, .agg #[.int .i64 et, .int .i64 ed]] w (MakesP (List.replicate L ⟨s, 1⟩ ++ [⟨s, 1⟩, ⟨et, ed⟩]) (allStr L) w) := by
  have S := (((Star.nil w).alloc (cs := #[.int .i64 et, .int .i64 ed]) (ty := 75)).alloc (cs := #[]) (ty := 75)).lit0 (α := Move) (E := moveE)
  replace S := (S.alloc (cs := #[]) (ty := 9)).lit0 (α := ByteArray) (E := strE)
  replace S := S.alloc (cs := #[.int .i64 s, .int .i64 1]) (ty := 75)
  rw [World.size_alloc, World.size_alloc, World.size_alloc] at S
  go_enter Tryz.func73, Tryz.ntmps73
  go_wp2
  generalize hW : (((w.alloc _).alloc _).alloc _).alloc _ = w0 at S ⊢
  clear hW
  obtain ⟨g, hg⟩ : ∃ g, g = w.heap.size + 1 + 1 + 1 := ⟨_, rfl⟩
  rw [← hg] at S ⊢
  clear hg
  go_loopw [12, 13, 15] (fun v1 v2 q wr => ∃ k : Nat, ∃ a b, k ≤ L ∧ v1 = a ∧ v2 = b ∧ q = .int .i64 k ∧ Star w wr [oE movesE [a] (List.replicate k ⟨s, 1⟩), oE strsE [b] (outsOf true k), oB g [.int .i64 s, .int .i64 1] 75, oB w.heap.size [.int .i64 et, .int .i64 ed] 75]) (fun _ _ q _ => L - (intOf q).toNat)
  case atStart => exact ⟨0, _, _, by omega, rfl, rfl, rfl, (S.sel [2, 1, 0, 3])⟩
  case round =>
    clear S
    obtain ⟨k, va, vb, hk, rfl, rfl, rfl, S⟩ := hrel
    obtain ⟨aa, an, ac, rfl⟩ := S.slc 0 rfl
    obtain ⟨ba, bn, bc, rfl⟩ := S.slc 1 rfl
    have o0 := (S.blk 2 rfl).cell 0 rfl
    have o1 := (S.blk 2 rfl).cell 1 rfl
    have n0 := (S.blk 3 rfl).cell 0 rfl
    have n1 := (S.blk 3 rfl).cell 1 rfl
    by_cases hlt : k < L
    case neg =>
      obtain rfl : L = k := by omega
      have hlr : (List.replicate L (⟨s, 1⟩ : Move)).length + 2 ≤ 1000000000000 := by simp; omega
      have hlo : (outsOf true L).length + 2 ≤ 1000000000000 := by simp [outsOf]; omega
      have SA := (S.alloc (cs := #[.int .i64 s, .int .i64 1, .int .i64 et, .int .i64 ed]) (ty := 75)).sel [1, 2]
      go_wp2_with (first
        | (at_builtin
           refine stS_StringS (ys := [⟨#[]⟩, ⟨#[]⟩]) SB rfl rfl rfl (strs2 _) rfl (src_cells rfl cell_a1 one_strs2) hlo ?_
           intro ja jn jc w9 S9)
        | (at_builtin
           refine stS_MoveS (ys := [⟨s, 1⟩, ⟨et, ed⟩]) SA rfl rfl rfl (all2 (ow_move ⟨by omega, by omega⟩ ⟨by omega, by omega⟩ _) (ow_move ⟨by omega, by omega⟩ ⟨by omega, by omega⟩ _)) rfl (src_cells rfl cell_a1 (one_ints [(s : Int), 1, et, ed])) hlr ?_
           intro ta tn tc w8 S8
           have SB := (S8.alloc (cs := #[.string ⟨#[]⟩, .string ⟨#[]⟩]) (ty := 9)).sel [2, 1]))
      have S10 := (S9.sel [1, 0]).pair
      obtain ⟨f9, z1, z2, z3⟩ := Star.out (E := pairE movesE strsE) S10
      exact bodyPost_ret (v := .tuple #[.slice ta tn tc, .slice ja jn jc]) (by simp [results, Tryz.results73, go_sem]) rfl ⟨_, _, f9, rfl, z1, z2, z3, S10.below⟩
    have hlr : (List.replicate k (⟨s, 1⟩ : Move)).length ≤ 1000000000000 := by simp; omega
    have hlo : (outsOf true k).length ≤ 1000000000000 := by simp [outsOf]; omega
    have SA := ((S.alloc (cs := #[.int .i64 s, .int .i64 1]) (ty := 75)).move (x := s) (y := 1) ⟨by omega, by omega⟩ ⟨by omega, by omega⟩).sel [2, 0, 3, 4, 5]
    obtain ⟨d, hd⟩ : ∃ d, d = UInt8.ofNat (97 + k) := ⟨_, rfl⟩
    have hlet : letter k = ⟨#[d]⟩ := by rw [hd]; rfl
    have hdn : (d.toNat : Int) = 97 + (k : Int) := by
      rw [hd, UInt8.toNat_ofNat']
      have : (97 + k) % 2 ^ 8 = 97 + k := Nat.mod_eq_of_lt (by omega)
      omega
    have wa : IntKind.i64.wrap (97 + (k : Int)) = 97 + (k : Int) := IntWalk.i64_in _ ⟨by omega, by omega⟩
    have wb : IntKind.u8.wrap (97 + (k : Int)) = 97 + (k : Int) := IntWalk.u8_in _ ⟨by omega, by omega⟩
    have HD := Lib.hid hdn; have HLET := Lib.hid hlet
    clear hd hdn hlet
    go_wp2_with (first
      | (at_builtin
         refine st1_StringS SB rfl rfl rfl rfl cell_a2 (one_mem rfl) hlo ?_
         intro ja jn jc w9 S9)
      | (at_builtin
         refine st1_MoveS SA rfl rfl rfl rfl cell_a1 (one_mem2 rfl rfl) hlr ?_
         intro ta tn tc w8 S8
         have hcv := run_convert_bytes_back (P := Tryz.prog) (w8.alloc (.cells #[.int .u8 (97 + (k : Int))] 5)) 22 9 5 ⟨w8.heap.size, 0, none⟩ 1 [d] Tryz.underlying22 Tryz.underlying5 Tryz.underlying9 (fun j hj => by
           obtain rfl : j = 0 := by simpa using hj
           rw [Addr.add_lit]
           simp [HD.out])
         have hl1 : [d].length = 1 := rfl
         rw [hl1] at hcv
         have SB0 := (S8.alloc (cs := #[.int .u8 (97 + (k : Int))]) (ty := 5)).alloc (cs := #[.string ⟨#[d]⟩]) (ty := 9)
         rw [World.size_alloc] at SB0
         have SB := (SB0.str (x := ⟨#[d]⟩) (Nat.le_trans (Nat.le_of_eq (show (ByteArray.mk #[d]).size = 1 from rfl)) (by decide))).sel [4, 0, 3, 5, 6]))
    have S9x : Star w w9 [oE movesE [.slice ta tn tc] (List.replicate k ⟨s, 1⟩ ++ [⟨s, 1⟩]), oE strsE [.slice ja jn jc] (outsOf true (k + 1)), oB g [.int .i64 s, .int .i64 1] 75, oB w.heap.size [.int .i64 et, .int .i64 ed] 75] := by
      have h : outsOf true (k + 1) = outsOf true k ++ [⟨#[d]⟩] := by rw [← HLET.out]; simp [outsOf, List.range_succ]
      rw [h]
      exact S9.sel [1, 0, 2, 3]
    rw [← List.replicate_succ'] at S9x
    go_roundw
    case rel => first | exact ⟨k + 1, by omega, by go_num, S9x⟩ | exact ⟨k + 1, _, _, by omega, rfl, rfl, by go_num, S9x⟩
    case measure => simp [intOf]; omega

set_option maxHeartbeats 4000000 in
set_option maxRecDepth 100000 in
theorem passO (L s : Nat) (et ed : Int) (hL : L ≤ 3) (hs : s ≤ 23) (het : -1 ≤ et ∧ et ≤ 30) (hed : -1 ≤ ed ∧ ed ≤ 1) (w : World) : Calls Tryz.prog 73 #[.int .i64 L, .int .i64 s, .int .i64 (-1), .bool false, .agg #[.int .i64 et, .int .i64 ed]] w (MakesP (List.replicate L ⟨s, -1⟩ ++ [⟨et, ed⟩, ⟨s, -1⟩]) (noStr L) w) := by
  have S := (((Star.nil w).alloc (cs := #[.int .i64 et, .int .i64 ed]) (ty := 75)).alloc (cs := #[]) (ty := 75)).lit0 (α := Move) (E := moveE)
  replace S := (S.alloc (cs := #[]) (ty := 9)).lit0 (α := ByteArray) (E := strE)
  replace S := S.alloc (cs := #[.int .i64 s, .int .i64 (-1)]) (ty := 75)
  rw [World.size_alloc, World.size_alloc, World.size_alloc] at S
  go_enter Tryz.func73, Tryz.ntmps73
  go_wp2
  generalize hW : (((w.alloc _).alloc _).alloc _).alloc _ = w0 at S ⊢
  clear hW
  obtain ⟨g, hg⟩ : ∃ g, g = w.heap.size + 1 + 1 + 1 := ⟨_, rfl⟩
  rw [← hg] at S ⊢
  clear hg
  go_loopw [12, 13, 15] (fun v1 v2 q wr => ∃ k : Nat, ∃ a b, k ≤ L ∧ v1 = a ∧ v2 = b ∧ q = .int .i64 k ∧ Star w wr [oE movesE [a] (List.replicate k ⟨s, -1⟩), oE strsE [b] (outsOf false k), oB g [.int .i64 s, .int .i64 (-1)] 75, oB w.heap.size [.int .i64 et, .int .i64 ed] 75]) (fun _ _ q _ => L - (intOf q).toNat)
  case atStart => exact ⟨0, _, _, by omega, rfl, rfl, rfl, (S.sel [2, 1, 0, 3])⟩
  case round =>
    clear S
    obtain ⟨k, va, vb, hk, rfl, rfl, rfl, S⟩ := hrel
    obtain ⟨aa, an, ac, rfl⟩ := S.slc 0 rfl
    obtain ⟨ba, bn, bc, rfl⟩ := S.slc 1 rfl
    have o0 := (S.blk 2 rfl).cell 0 rfl
    have o1 := (S.blk 2 rfl).cell 1 rfl
    have n0 := (S.blk 3 rfl).cell 0 rfl
    have n1 := (S.blk 3 rfl).cell 1 rfl
    by_cases hlt : k < L
    case neg =>
      obtain rfl : L = k := by omega
      have hlr : (List.replicate L (⟨s, -1⟩ : Move)).length + 2 ≤ 1000000000000 := by simp; omega
      have hlo : (outsOf false L).length + 2 ≤ 1000000000000 := by simp [outsOf]; omega
      have SA := (S.alloc (cs := #[.int .i64 et, .int .i64 ed, .int .i64 s, .int .i64 (-1)]) (ty := 75)).sel [1, 2]
      go_wp2_with (first
        | (at_builtin
           refine stS_StringS (ys := [⟨#[]⟩, ⟨#[]⟩]) SB rfl rfl rfl (strs2 _) rfl (src_cells rfl cell_a1 one_strs2) hlo ?_
           intro ja jn jc w9 S9)
        | (at_builtin
           refine stS_MoveS (ys := [⟨et, ed⟩, ⟨s, -1⟩]) SA rfl rfl rfl (all2 (ow_move ⟨by omega, by omega⟩ ⟨by omega, by omega⟩ _) (ow_move ⟨by omega, by omega⟩ ⟨by omega, by omega⟩ _)) rfl (src_cells rfl cell_a1 (one_ints [et, ed, (s : Int), -1])) hlr ?_
           intro ta tn tc w8 S8
           have SB := (S8.alloc (cs := #[.string ⟨#[]⟩, .string ⟨#[]⟩]) (ty := 9)).sel [2, 1]))
      have S10 := (S9.sel [1, 0]).pair
      obtain ⟨f9, z1, z2, z3⟩ := Star.out (E := pairE movesE strsE) S10
      exact bodyPost_ret (v := .tuple #[.slice ta tn tc, .slice ja jn jc]) (by simp [results, Tryz.results73, go_sem]) rfl ⟨_, _, f9, rfl, z1, z2, z3, S10.below⟩
    have hlr : (List.replicate k (⟨s, -1⟩ : Move)).length ≤ 1000000000000 := by simp; omega
    have hlo : (outsOf false k).length ≤ 1000000000000 := by simp [outsOf]; omega
    have SA := ((S.alloc (cs := #[.int .i64 s, .int .i64 (-1)]) (ty := 75)).move (x := s) (y := -1) ⟨by omega, by omega⟩ ⟨by omega, by omega⟩).sel [2, 0, 3, 4, 5]
    go_wp2_with (first
      | (at_builtin
         refine st1_StringS SB rfl rfl rfl rfl cell_a1 (one_mem rfl) hlo ?_
         intro ja jn jc w9 S9)
      | (at_builtin
         refine st1_MoveS SA rfl rfl rfl rfl cell_a1 (one_mem2 rfl rfl) hlr ?_
         intro ta tn tc w8 S8
         have SB := ((S8.alloc (cs := #[.string ⟨#[]⟩]) (ty := 9)).str (x := ⟨#[]⟩) (by decide)).sel [3, 0, 2, 4, 5]))
    have S9x : Star w w9 [oE movesE [.slice ta tn tc] (List.replicate k ⟨s, -1⟩ ++ [⟨s, -1⟩]), oE strsE [.slice ja jn jc] (outsOf false (k + 1)), oB g [.int .i64 s, .int .i64 (-1)] 75, oB w.heap.size [.int .i64 et, .int .i64 ed] 75] := by
      have h : outsOf false (k + 1) = outsOf false k ++ [⟨#[]⟩] := by simp [outsOf, List.replicate_succ']
      rw [h]
      exact S9.sel [1, 0, 2, 3]
    rw [← List.replicate_succ'] at S9x
    go_roundw
    case rel => first | exact ⟨k + 1, by omega, by go_num, S9x⟩ | exact ⟨k + 1, _, _, by omega, rfl, rfl, by go_num, S9x⟩
    case measure => simp [intOf]; omega

end Go.Proofs.YtfamhnogpcmbmaaGreatDoor
