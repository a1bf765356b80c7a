/-
  Copies of lists of texts: the program's ownLists, the reference's l07Texts.
-/
import Derived.Test.YtcifdkliiljmkaaGreatDoorPackB
import Derived.Test.YtcifdkliiljmkaaGreatDoorCloneK
import Derived.Test.YtcifdkliiljmkaaGreatDoorPackA
import Derived.Test.YtcifdkliiljmkaaGreatDoorStarKK
import Derived.Test.YtcifdkliiljmkaaGreatDoorStepZK
namespace Go.Proofs.YtcifdkliiljmkaaGreatDoor
open Go.RowKit

set_option maxHeartbeats 1000000 in
theorem l07Texts_any (v : Value) (l : List (List ByteArray)) (B : Nat) (w : World) (hB0 : B ≤ w.heap.size) (h : strssE.rd w B [v] l) (hl : l.length ≤ 1000000) (hm : ∀ x, x ∈ l → x.length ≤ 1000000) :
    Calls Tryz.prog 48 #[v] w (Makes strssE id l w) := by
  obtain ⟨a, cap, rfl, l1, l2, -, e4⟩ := rd_slice1 rfl h
  obtain ⟨n, hn⟩ : ∃ n, n = l.length := ⟨_, rfl⟩
  rw [← hn] at l1 e4 hl ⊢
  have HN := Lib.hid hn
  have E4 := Lib.hid e4
  have HM := Lib.hid hm
  clear h e4 hn hm
  have S := ((Star.nil w).alloc (cs := #[]) (ty := 51)).lit0 (α := List ByteArray) (E := strsE)
  go_enter Tryz.func48, Tryz.ntmps48
  go_wp2
  generalize hW : w.alloc _ = w0 at S ⊢
  clear hW
  go_loopw [3, 4] (fun vs s wr => ∃ k : Nat, ∃ vl, k ≤ n ∧ vs = vl ∧ s = .int .i64 k ∧ Star w wr [oE strssE [vl] (l.take k)]) (fun _ s _ => n - (intOf s).toNat)
  case atStart => exact ⟨0, _, by omega, rfl, rfl, S⟩
  case round =>
    clear S
    obtain ⟨k, vl, hk, rfl, rfl, S⟩ := hrel
    obtain ⟨la, ln, lc, rfl⟩ := S.slc 0 rfl
    by_cases hlt : k < n
    case neg =>
      obtain rfl : k = n := by omega
      have ht : l.take k = l := List.take_of_length_le (by rw [HN.out]; exact Nat.le_refl _)
      rw [ht] at S
      clear ht
      go_wp2
      go_ret
      exact S.done1
    obtain ⟨b, o, vk, rfl, -, hc, hr⟩ := E4.out k hlt
    have g1 := fun o' => ((S.below.alloc S.below.size o').cell (World.block_lt_of_cell? w _ hc)).trans hc
    have hlk : k < l.length := by rw [← HN.out]; exact hlt
    have hget : l[k]?.getD default = l[k] := by simp [List.getElem?_eq_getElem hlk]
    rw [hget] at hr
    have hlen : l[k].length ≤ 1000000 := HM.out _ (List.getElem_mem hlk)
    have htk := List.take_succ_eq_append_getElem hlk
    obtain ⟨row, hrow⟩ : ∃ r, r = l[k] := ⟨_, rfl⟩
    rw [← hrow] at hr hlen htk
    have R := Lib.hid hr
    have HT := Lib.hid htk
    obtain ⟨ra, rn, rc, rfl⟩ := rd_slice hr
    clear hc hr hget htk hrow
    have hll : (l.take k).length ≤ 1000000000000 := Nat.le_trans (List.length_take_le _ _) (by omega)
    have SA := (S.alloc (cs := #[]) (ty := 9)).lit0 (α := ByteArray) (E := strE)
    obtain ⟨css, fys, e1, e2, e3⟩ := src_strs (strsE.rd_of (SA.below.mono hB0) R.out)
    go_wp2_with (first
      | (at_builtin
         refine st1_StringSS SC rfl rfl rfl rfl cell_a1 (one_mem rfl) hll ?_
         intro ua un uc w3 S3)
      | (at_builtin
         refine stS_StringS (ys := row) SA rfl rfl rfl e1 e2 e3 (by simp; omega) ?_
         intro ta tn tc w2 S2
         have SC := (S2.alloc (cs := #[.slice ta tn tc]) (ty := 51)).sel [2, 1]))
    rw [List.nil_append] at S3
    go_roundw
    case rel => exact ⟨k + 1, _, by omega, rfl, by go_num, by rw [HT.out]; exact S3⟩
    case measure => simp [intOf]; omega

end Go.Proofs.YtcifdkliiljmkaaGreatDoor
