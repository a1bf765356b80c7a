/-
  The reference's l00Own and l00Put.
-/
import Derived.Test.YtaedgicglddihaaClone
import Derived.Test.YtaedgicglddihaaStarJ
namespace Go.Proofs.Ytaedgicglddihaa
open Go.RowKit

set_option maxHeartbeats 400000 in
theorem l00Own_any (v : Value) (l : List Int) (B : Nat) (w : World) (hB0 : B ≤ w.heap.size) (h : intsE.rd w B [v] l) (hl : l.length ≤ 1000000) : Calls Try.prog 16 #[v] w (Makes intsE id l w) := by
  have HR := Lib.hid h
  obtain ⟨pa, pn, pc, rfl⟩ := rd_slice h
  clear h
  have S := ((Star.nil w).alloc (cs := #[]) (ty := 2)).lit0 (α := Int) (E := intE)
  have hlen : ([] : List Int).length + l.length ≤ 1000000000000 := by simp; omega
  obtain ⟨css, fys, hys, hfy, hs⟩ := src_ints (intsE.rd_of (S.below.mono hB0) HR.out)
  go_enter Try.func16, Try.ntmps16
  go_wp2_with (at_builtin; refine stS_Int64S (ys := l) S rfl rfl rfl hys hfy hs hlen ?_; intro ta tn tc w9 S9)
  go_ret
  rw [List.nil_append] at S9
  exact S9.done1

/-- A number put to its place. -/
def putGo (n : Int) : Bool → List Int → List Int
  | true, [] => []
  | false, [] => [n]
  | true, x :: l => x :: putGo n true l
  | false, x :: l => if n ≤ x then (if n < x then n :: x :: putGo n true l else x :: putGo n true l) else x :: putGo n false l

theorem putGo_len (n : Int) (b : Bool) (l : List Int) : (putGo n b l).length ≤ l.length + 1 := by
  induction l generalizing b with
  | nil => cases b <;> simp [putGo]
  | cons a l ih =>
    cases b
    · unfold putGo
      split
      · have := ih true
        have h2 : (putGo n true l).length = l.length := by
          clear ih this
          induction l with
          | nil => rfl
          | cons c l ih => rw [putGo, List.length_cons, ih, List.length_cons]
        split <;> simp [h2] <;> omega
      · have := ih false; simp; omega
    · unfold putGo
      have := ih true; simp; omega

set_option maxHeartbeats 1000000 in
theorem l00Put_any (v : Value) (l : List Int) (n : Int) (hn : -9223372036854775808 ≤ n ∧ n ≤ 9223372036854775807) (B : Nat) (w : World) (hB0 : B ≤ w.heap.size) (h : intsE.rd w B [v] l) (hl : l.length ≤ 1000000) : Calls Try.prog 15 #[v, .int .i64 n] w (Makes intsE id (putGo n false l) w) := by
  obtain ⟨pa, pc, rfl, q1, q2, -, e3⟩ := rd_ints h
  obtain ⟨m, hm⟩ : ∃ m, m = l.length := ⟨_, rfl⟩
  rw [← hm] at q1 e3 hl ⊢
  have HM := Lib.hid hm
  have E3 := Lib.hid e3
  clear h hm e3
  have S := ((Star.nil w).alloc (cs := #[]) (ty := 2)).lit0 (α := Int) (E := intE)
  go_enter Try.func15, Try.ntmps15
  go_wp2
  generalize hW : w.alloc _ = w0 at S ⊢
  clear hW
  go_loopw [5, 6, 7] (fun vs d q wr => ∃ k : Nat, ∃ vr, ∃ b : Bool, ∃ out : List Int, k ≤ m ∧ vs = vr ∧ d = .bool b ∧ q = .int .i64 k ∧ out.length ≤ k + b.toNat ∧ Hid (out ++ putGo n b (l.drop k) = putGo n false l) ∧ Star w wr [oE intsE [vr] out]) (fun _ _ q _ => m - (intOf q).toNat)
  case atStart => exact ⟨0, _, false, [], by omega, rfl, rfl, rfl, by simp, Lib.hid (by simp), S⟩
  case round =>
    clear S
    obtain ⟨k, vr, b, out, hk, rfl, rfl, rfl, hlo, HO, S⟩ := hrel
    obtain ⟨va, vn, vc, rfl⟩ := S.slc 0 rfl
    have hlo1 : out.length ≤ k + 1 := Nat.le_trans hlo (by cases b <;> simp)
    have hlo2 : out.length ≤ 1000000000000 := by omega
    have hlo3 : (out ++ [n]).length ≤ 1000000000000 := by rw [List.length_append]; simp; omega
    by_cases hlt : k < m
    case neg =>
      obtain rfl : m = k := by omega
      have hd : l.drop m = [] := List.drop_eq_nil_of_le (by rw [HM.out]; exact Nat.le_refl _)
      have hO := HO.out
      rw [hd] at hO
      have HO2 := Lib.hid hO
      clear hd hO HO
      cases hb : b
      case true =>
        subst hb
        go_wp2
        go_ret
        rw [← HO2.out]
        simpa [putGo] using S.done1
      subst hb
      have SA := ((S.alloc (cs := #[.int .i64 n]) (ty := 2)).int (x := n) hn).sel [2, 0]
      go_wp2_with (at_builtin; refine st1_Int64S SA rfl rfl rfl rfl cell_a1 (one_mem rfl) hlo2 ?_; intro ta tn tc w9 S9)
      go_ret
      rw [← HO2.out]
      exact S9.done1
    obtain ⟨sb, so, rfl, -, hc, b1, b2⟩ := E3.out k hlt
    have hkl : k < l.length := by rw [← HM.out]; exact hlt
    have hget : l[k]?.getD 0 = l[k] := by simp [List.getElem?_eq_getElem hkl]
    have hdr := List.drop_eq_getElem_cons hkl
    rw [hget] at hc b1 b2
    obtain ⟨e, hee⟩ : ∃ e, e = l[k] := ⟨_, rfl⟩
    rw [← hee] at hc b1 b2 hdr
    have g1 := (S.below.cell (World.block_lt_of_cell? w _ hc)).trans hc
    have HDR := Lib.hid hdr
    have HC := Lib.hid hc
    clear hget hdr hee hc
    have SE := ((S.alloc (cs := #[.int .i64 e]) (ty := 2)).int (x := e) ⟨b1, b2⟩).sel [2, 0]
    have hO := HO.out
    rw [HDR.out] at hO
    cases hb : b
    case true =>
      subst hb
      have HO2 : Hid ((out ++ [e]) ++ putGo n true (l.drop (k + 1)) = putGo n false l) := Lib.hid (by rw [← hO, List.append_assoc]; rfl)
      clear hO HO
      go_wp2_with (at_builtin; refine st1_Int64S SE rfl rfl rfl rfl cell_a1 (one_mem rfl) hlo2 ?_; intro ta tn tc w9 S9)
      go_roundw
      case rel => exact ⟨k + 1, _, _, _, by omega, rfl, rfl, by go_num, by rw [List.length_append]; simp at hlo ⊢; omega, HO2, S9⟩
      case measure => simp [intOf]; omega
    subst hb
    have HBE := Lib.hid (And.intro b1 b2)
    by_cases hle : n ≤ e
    case neg =>
      have hp : putGo n false (e :: l.drop (k + 1)) = e :: putGo n false (l.drop (k + 1)) := by rw [putGo, if_neg hle]
      have HO2 : Hid ((out ++ [e]) ++ putGo n false (l.drop (k + 1)) = putGo n false l) := Lib.hid (by rw [← hO, hp, List.append_assoc]; rfl)
      clear hO HO hp
      go_wp2_with (at_builtin; refine st1_Int64S SE rfl rfl rfl rfl cell_a1 (one_mem rfl) hlo2 ?_; intro ta tn tc w9 S9)
      go_roundw
      case rel => exact ⟨k + 1, _, _, _, by omega, rfl, rfl, by go_num, by rw [List.length_append]; simp at hlo ⊢; omega, HO2, S9⟩
      case measure => simp [intOf]; omega
    by_cases hlt3 : n < e
    case neg =>
      have hp : putGo n false (e :: l.drop (k + 1)) = e :: putGo n true (l.drop (k + 1)) := by rw [putGo, if_pos hle, if_neg hlt3]
      have HO2 : Hid ((out ++ [e]) ++ putGo n true (l.drop (k + 1)) = putGo n false l) := Lib.hid (by rw [← hO, hp, List.append_assoc]; rfl)
      clear hO HO hp
      go_wp2_with (at_builtin; refine st1_Int64S SE rfl rfl rfl rfl cell_a1 (one_mem rfl) hlo2 ?_; intro ta tn tc w9 S9)
      go_roundw
      case rel => exact ⟨k + 1, _, _, _, by omega, rfl, rfl, by go_num, by rw [List.length_append]; simp at hlo ⊢; omega, HO2, S9⟩
      case measure => simp [intOf]; omega
    have hp : putGo n false (e :: l.drop (k + 1)) = n :: e :: putGo n true (l.drop (k + 1)) := by rw [putGo, if_pos hle, if_pos hlt3]
    have HO2 : Hid ((out ++ [n] ++ [e]) ++ putGo n true (l.drop (k + 1)) = putGo n false l) := Lib.hid (by rw [← hO, hp, List.append_assoc, List.append_assoc]; rfl)
    clear hO HO hp SE
    have SN := ((S.alloc (cs := #[.int .i64 n]) (ty := 2)).int (x := n) hn).sel [2, 0]
    go_wp2_with (first
      | (at_builtin; refine st1_Int64S (((S9.alloc (cs := #[.int .i64 e]) (ty := 2)).int (x := e) HBE.out).sel [2, 0]) rfl rfl rfl rfl cell_a1 (one_mem rfl) hlo3 ?_; intro tb tm td wA SA2)
      | (at_builtin; refine st1_Int64S SN rfl rfl rfl rfl cell_a1 (one_mem rfl) hlo2 ?_; intro ta tn tc w9 S9; have g9 := (S9.below.cell (World.block_lt_of_cell? w _ HC.out)).trans HC.out))
    go_roundw
    case rel => exact ⟨k + 1, _, _, _, by omega, rfl, rfl, by go_num, by rw [List.length_append]; simp at hlo ⊢; omega, HO2, SA2⟩
    case measure => simp [intOf]; omega

end Go.Proofs.Ytaedgicglddihaa
