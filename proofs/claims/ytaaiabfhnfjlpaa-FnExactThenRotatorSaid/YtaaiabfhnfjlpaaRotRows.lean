/-
  Copies of lists of numbers: the program's ownLists, the reference's l06Rows.
-/
import Derived.Test.YtaaiabfhnfjlpaaStar
import Derived.Test.YtaaiabfhnfjlpaaClone
import Derived.Test.YtaaiabfhnfjlpaaShape
namespace Go.Proofs.Ytaaiabfhnfjlpaa
open Go.RowKit

set_option maxHeartbeats 1000000 in
theorem ownLists_ints (v : Value) (l : List (List Int)) (B : Nat) (w : World) (hB0 : B ≤ w.heap.size) (h : intssE.rd w B [v] l) (hl : l.length ≤ 1000000) (hm : ∀ x, x ∈ l → x.length ≤ 1000000) :
    Calls Try.prog 30 #[v] w (Makes intssE id l w) := by
  obtain ⟨a, cap, rfl, l1, l2, -, e4⟩ := rd_slice1 rfl h
  obtain ⟨n, hn⟩ : ∃ n, n = l.length := ⟨_, rfl⟩
  rw [← hn] at l1 e4 hl ⊢
  have HN := Lib.hid hn
  have E4 := Lib.hid e4
  have HM := Lib.hid hm
  clear h e4 hn hm
  have S := ((Star.nil w).alloc (cs := #[]) (ty := 23)).lit0 (α := List Int) (E := intsE)
  go_enter Try.func30, Try.ntmps30
  go_wp2
  generalize hW : w.alloc _ = w0 at S ⊢
  clear hW
  go_loopw [3, 9] (fun vs s wr => ∃ k : Nat, ∃ vl, k ≤ n ∧ vs = vl ∧ s = .int .i64 k ∧ Star w wr [oE intssE [vl] (l.take k)]) (fun _ s _ => n - (intOf s).toNat)
  case atStart => exact ⟨0, _, by omega, rfl, rfl, S⟩
  case round =>
    clear S
    obtain ⟨k, vl, hk, rfl, rfl, S⟩ := hrel
    obtain ⟨la, ln, lc, rfl⟩ := S.slc 0 rfl
    by_cases hlt : k < n
    case neg =>
      obtain rfl : k = n := by omega
      have ht : l.take k = l := List.take_of_length_le (by rw [HN.out]; exact Nat.le_refl _)
      rw [ht] at S
      clear ht
      go_wp2
      go_ret
      exact S.done1
    obtain ⟨b, o, vk, rfl, -, hc, hr⟩ := E4.out k hlt
    have g1 := (S.below.cell (World.block_lt_of_cell? w _ hc)).trans hc
    have hlk : k < l.length := by rw [← HN.out]; exact hlt
    have hget : l[k]?.getD default = l[k] := by simp [List.getElem?_eq_getElem hlk]
    rw [hget] at hr
    have hlen : l[k].length ≤ 1000000000000 := Nat.le_trans (HM.out _ (List.getElem_mem hlk)) (by omega)
    have htk := List.take_succ_eq_append_getElem hlk
    obtain ⟨row, hrow⟩ : ∃ r, r = l[k] := ⟨_, rfl⟩
    rw [← hrow] at hr hlen htk
    have R := Lib.hid hr
    have HT := Lib.hid htk
    obtain ⟨ra, rn, rc, rfl⟩ := rd_slice hr
    clear hc hr hget htk hrow
    have hll : (l.take k).length ≤ 1000000000000 := Nat.le_trans (List.length_take_le _ _) (by omega)
    go_wp2_with fail
    refine (clone_ints _ row B _ (Nat.le_trans hB0 S.below.size) (intsE.rd_of (S.below.mono hB0) R.out) hlen).mono ?_
    rintro e w1 ⟨vc, fc, rfl, oc, nc, lo, b9⟩
    obtain ⟨ca, cn, cc, rfl⟩ := ow_slice oc
    have SC := ((S.made oc nc lo b9).alloc (cs := #[.slice ca cn cc]) (ty := 23)).sel [2, 1]
    clear oc nc lo b9
    go_wp2_with (at_builtin; refine st1_Int64SS SC rfl rfl rfl rfl cell_a1 (one_mem rfl) hll ?_; intro ta tn tc w2 S2)
    go_roundw
    case rel => exact ⟨k + 1, _, by omega, rfl, by go_num, by rw [HT.out]; exact S2⟩
    case measure => simp [intOf]; omega

/-- Numbers with something added. -/
def plusAll (l : List (List Int)) (d : Int) : List (List Int) := l.map fun r => r.map (· + d)

set_option maxHeartbeats 1000000 in
theorem l06Rows_any (v : Value) (l : List (List Int)) (d : Int) (B : Nat) (w : World) (hB0 : B ≤ w.heap.size) (h : intssE.rd w B [v] l) (hl : l.length ≤ 1000000) (hm : ∀ x, x ∈ l → x.length ≤ 1000000 ∧ ∀ y, y ∈ x → -1000000 ≤ y ∧ y ≤ 1000000) (hd : 0 ≤ d ∧ d ≤ 1000000) :
    Calls Try.prog 28 #[v, .int .i64 d] w (Makes intssE id (plusAll l d) w) := by
  obtain ⟨a, cap, rfl, l1, l2, -, e4⟩ := rd_slice1 rfl h
  obtain ⟨n, hn⟩ : ∃ n, n = l.length := ⟨_, rfl⟩
  rw [← hn] at l1 e4 hl ⊢
  have HN := Lib.hid hn
  have E4 := Lib.hid e4
  have HM := Lib.hid hm
  clear h e4 hn hm
  have S := ((Star.nil w).alloc (cs := #[]) (ty := 23)).lit0 (α := List Int) (E := intsE)
  go_enter Try.func28, Try.ntmps28
  go_wp2
  generalize hW : w.alloc _ = w0 at S ⊢
  clear hW
  go_loopw [5, 6] (fun vs s wr => ∃ k : Nat, ∃ vl, k ≤ n ∧ vs = vl ∧ s = .int .i64 k ∧ Star w wr [oE intssE [vl] (plusAll (l.take k) d)]) (fun _ s _ => n - (intOf s).toNat)
  case atStart => exact ⟨0, _, by omega, rfl, rfl, S⟩
  case round =>
    clear S
    obtain ⟨k, vl, hk, rfl, rfl, S⟩ := hrel
    obtain ⟨la, ln, lc, rfl⟩ := S.slc 0 rfl
    by_cases hlt : k < n
    case neg =>
      obtain rfl : k = n := by omega
      have ht : l.take k = l := List.take_of_length_le (by rw [HN.out]; exact Nat.le_refl _)
      rw [ht] at S
      clear ht
      go_wp2
      go_ret
      exact S.done1
    obtain ⟨b, o, vk, rfl, -, hc, hr⟩ := E4.out k hlt
    have hlk : k < l.length := by rw [← HN.out]; exact hlt
    have hget : l[k]?.getD default = l[k] := by simp [List.getElem?_eq_getElem hlk]
    rw [hget] at hr
    obtain ⟨hlen, hbd⟩ := HM.out _ (List.getElem_mem hlk)
    have htk := List.take_succ_eq_append_getElem hlk
    obtain ⟨row, hrow⟩ : ∃ r, r = l[k] := ⟨_, rfl⟩
    rw [← hrow] at hr hlen htk hbd
    obtain ⟨ra, rc, rfl, q1, q2, -, e5⟩ := rd_ints hr
    have HT : Hid (plusAll (l.take (k + 1)) d = plusAll (l.take k) d ++ [row.map (· + d)]) := Lib.hid (by unfold plusAll; rw [htk, List.map_append]; rfl)
    obtain ⟨m, hm⟩ : ∃ m, m = row.length := ⟨_, rfl⟩
    rw [← hm] at q1 e5 hlen hc
    have E5 := Lib.hid e5
    have HBD := Lib.hid hbd
    have HMM := Lib.hid hm
    have HC := Lib.hid hc
    clear hc hr hget htk hrow e5 hbd hm
    replace S := (S.alloc (cs := #[]) (ty := 2)).lit0 (α := Int) (E := intE)
    go_wp2
    generalize hW : wr.alloc _ = wa at S ⊢
    clear hW
    go_loopw [7, 8] (fun vs s wr => ∃ c : Nat, ∃ vr, c ≤ m ∧ vs = vr ∧ s = .int .i64 c ∧ Star w wr [oE intsE [vr] ((row.take c).map (· + d)), oE intssE [.slice la ln lc] (plusAll (l.take k) d)]) (fun _ s _ => m - (intOf s).toNat)
    case atStart => exact ⟨0, _, by omega, rfl, rfl, S⟩
    case round =>
      clear S
      obtain ⟨c, vr, hc, rfl, rfl, S⟩ := hrel
      obtain ⟨va, vn, vc, rfl⟩ := S.slc 0 rfl
      have g1 := (S.below.cell (World.block_lt_of_cell? w _ HC.out)).trans HC.out
      by_cases hcm : c < m
      case neg =>
        obtain rfl : c = m := by omega
        have ht : row.take c = row := List.take_of_length_le (by rw [HMM.out]; exact Nat.le_refl _)
        rw [ht] at S
        clear ht
        have hll : (plusAll (l.take k) d).length ≤ 1000000000000 := by unfold plusAll; rw [List.length_map]; exact Nat.le_trans (List.length_take_le _ _) (by omega)
        have SC := (S.alloc (cs := #[.slice va vn vc]) (ty := 23)).sel [2, 1]
        go_wp2_with (at_builtin; refine st1_Int64SS SC rfl rfl rfl rfl cell_a1 (one_mem rfl) hll ?_; intro ta tn tc w2 S2)
        go_roundw
        case rel => exact ⟨k + 1, _, by omega, rfl, by go_num, by rw [HT.out]; exact S2⟩
        case measure => simp [intOf]; omega
      obtain ⟨s, t, rfl, -, hc5, b1, b2⟩ := E5.out c hcm
      have hlc : c < row.length := by rw [← HMM.out]; exact hcm
      have hx := HBD.out _ (List.getElem_mem hlc)
      have hget : row[c]?.getD 0 = row[c] := by simp [List.getElem?_eq_getElem hlc]
      rw [hget] at hc5
      have g2 := (S.below.cell (World.block_lt_of_cell? w _ hc5)).trans hc5
      have htc : (row.take (c + 1)).map (· + d) = (row.take c).map (· + d) ++ [row[c] + d] := by rw [List.take_succ_eq_append_getElem hlc, List.map_append]; rfl
      obtain ⟨x, hxx⟩ : ∃ x, x = row[c] := ⟨_, rfl⟩
      rw [← hxx] at hx g2 htc
      have HTC := Lib.hid htc
      clear hget hc5 htc b1 b2 hxx
      have hll : ((row.take c).map (· + d)).length ≤ 1000000000000 := by rw [List.length_map]; exact Nat.le_trans (List.length_take_le _ _) (by omega)
      have SA := ((S.alloc (cs := #[.int .i64 (x + d)]) (ty := 2)).int (x := x + d) ⟨by omega, by omega⟩).sel [2, 0, 3]
      go_wp2_with (at_builtin; refine st1_Int64S SA rfl rfl rfl rfl cell_a1 (one_mem rfl) hll ?_; intro ta tn tc w2 S2)
      go_roundw
      case rel => exact ⟨c + 1, _, by omega, rfl, by go_num, by rw [HTC.out]; exact S2⟩
      case measure => simp [intOf]; omega

end Go.Proofs.Ytaaiabfhnfjlpaa
