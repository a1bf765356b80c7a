/-
  Contracts of the laws' own sz.. helpers over numbers, and over rotators.
-/
import Derived.Test.YtciclhklljdlgaaLeafC
namespace Go.Proofs.Ytciclhklljdlgaa
open Go.RowKit

/-- What is left of a number behind t; -1 if that is too little. -/
def lim (t : Nat) (left : Int) : Int := if left < t then -1 else left - t

theorem lim_of_lt {t : Nat} {left : Int} (h : left < t) : lim t left = -1 := if_pos h
theorem lim_of_ge {t : Nat} {left : Int} (h : ¬ left < t) : lim t left = left - t := if_neg h

set_option maxHeartbeats 400000 in
theorem szInt64S_any (v : Value) (l : List Int) (B : Nat) (w : World) (left : Int) (h : intsE.rd w B [v] l) (h0 : 0 ≤ left) (h1 : left ≤ 1048576) :
    Calls Try.prog 28 #[v, .int .i64 left] w (Gives (.int .i64 (lim l.length left)) w) := by
  obtain ⟨a, cap, rfl, a1, a2, -, -⟩ := rd_ints h
  clear h
  by_cases hlt : left < l.length
  · have hr := Lib.hid (lim_of_lt hlt)
    have ht : left - (l.length : Int) < 0 := by omega
    go_enter Try.func28, Try.ntmps28
    go_wp2
    go_ret
    exact ⟨by rw [hr.out]; rfl, Below.refl _ _⟩
  · have hr := Lib.hid (lim_of_ge hlt)
    have ht : ¬ left - (l.length : Int) < 0 := by omega
    go_enter Try.func28, Try.ntmps28
    go_wp2
    go_ret
    exact ⟨by rw [hr.out]; rfl, Below.refl _ _⟩

/-- The elements' own sizes. -/
def sumLen {α : Type} (l : List (List α)) : Nat := (l.map List.length).sum

theorem sumLen_take {α : Type} (l : List (List α)) (k : Nat) (x : List α) (h : l[k]? = some x) : sumLen (l.take (k + 1)) = sumLen (l.take k) + x.length := by
  obtain ⟨hk, rfl⟩ := List.getElem?_eq_some_iff.1 h
  rw [List.take_succ_eq_append_getElem hk]
  simp only [sumLen, List.map_append, List.sum_append, List.map_cons, List.map_nil, List.sum_cons, List.sum_nil, Nat.add_zero]

theorem sumLen_le {α : Type} (l : List (List α)) (k : Nat) : sumLen (l.take k) ≤ sumLen l := by
  conv => rhs; rw [← List.take_append_drop k l]
  simp only [sumLen, List.map_append, List.sum_append]
  omega

theorem sumLen_mem {α : Type} (l : List (List α)) (x : List α) (h : x ∈ l) : x.length ≤ sumLen l := by
  induction l with
  | nil => cases h
  | cons a l ih =>
    simp only [sumLen, List.map_cons, List.sum_cons] at *
    rcases List.mem_cons.1 h with rfl | h
    · omega
    · have := ih h; omega

set_option maxHeartbeats 400000 in
theorem szInt64SS_any (v : Value) (l : List (List Int)) (B : Nat) (w : World) (left : Int) (hB0 : B ≤ w.heap.size) (h : intssE.rd w B [v] l) (h0 : 0 ≤ left) (h1 : left ≤ 1048576) :
    Calls Try.prog 27 #[v, .int .i64 left] w (Gives (.int .i64 (lim (l.length + sumLen l) left)) w) := by
  obtain ⟨a, cap, rfl, a1, a2, -, h4⟩ := rd_slice1 rfl h
  clear h
  obtain ⟨n, hn⟩ : ∃ n, n = l.length := ⟨_, rfl⟩
  rw [← hn] at h4 a1 ⊢
  have Hn := Lib.hid hn; clear hn
  have H4 := Lib.hid h4; clear h4
  by_cases hlt : left < n
  · have hr := Lib.hid (lim_of_lt (t := n + sumLen l) (left := left) (by omega))
    have ht : left - (n : Int) < 0 := by omega
    go_enter Try.func27, Try.ntmps27
    go_wp2
    go_ret
    exact ⟨by rw [hr.out]; rfl, Below.refl _ _⟩
  · have ht : ¬ left - (n : Int) < 0 := by omega
    go_enter Try.func27, Try.ntmps27
    go_wp2
    go_loopw [1, 5] (fun r i wr => ∃ k : Nat, ∃ q : Int, k ≤ n ∧ i = .int .i64 k ∧ Below w.heap.size w wr ∧ r = .int .i64 q ∧ 0 ≤ q ∧ q ≤ 1048576 ∧ Hid (q = left - n - sumLen (l.take k))) (fun _ i _ => n - (intOf i).toNat)
    case atStart => exact ⟨0, left - n, by omega, rfl, Below.refl _ _, rfl, by omega, by omega, Lib.hid (by simp [sumLen])⟩
    case round =>
      obtain ⟨k, q, hk, rfl, hB, rfl, q0, q1, HQ⟩ := hrel
      by_cases hkn : k < n
      · obtain ⟨b, o, vk, rfl, -, hc, hr⟩ := H4.out k hkn
        have c1 := (hB.cell (World.block_lt_of_cell? w _ hc)).trans hc
        have HR := Lib.hid (intsE.rd_of (hB.mono hB0) hr)
        have HK := Lib.hid (get_some default (l := l) (k := k) (by rw [← Hn.out]; exact hkn))
        clear hc hr
        generalize l[k]?.getD default = x at *
        go_wp2_with fail
        refine (szInt64S_any _ x _ _ _ HR.out q0 q1).mono ?_
        rintro e w1 ⟨rfl, hbl⟩
        have B1 := Lib.hid (hB.trans (hbl.mono hB.size)); clear hB hbl
        have HT := Lib.hid (sumLen_take l k x HK.out)
        have HM := Lib.hid (sumLen_le l (k + 1))
        by_cases hx : q < x.length
        · rw [lim_of_lt hx]
          have hr := Lib.hid (lim_of_lt (t := n + sumLen l) (left := left) (by have := HQ.out; have := HT.out; have := HM.out; omega))
          go_wp2
          go_ret
          exact ⟨by rw [hr.out]; rfl, B1.out⟩
        · rw [lim_of_ge hx]
          have ht : ¬ q - (x.length : Int) < 0 := by omega
          go_wp2
          go_roundw
          case rel => exact ⟨k + 1, q - x.length, by omega, by go_num, B1.out, rfl, by omega, by omega, Lib.hid (by have := HQ.out; have := HT.out; omega)⟩
          case measure => simp [intOf]; omega
      · obtain rfl : k = n := by omega
        have hq : q = lim (k + sumLen l) left := by
          have h1 := HQ.out
          rw [Hn.out, List.take_length] at h1
          rw [lim_of_ge (by rw [Hn.out]; omega)]
          rw [Hn.out]
          omega
        have HQ2 := Lib.hid hq; clear hq
        go_wp2
        go_ret
        exact ⟨by rw [← HQ2.out]; rfl, hB⟩

set_option maxHeartbeats 400000 in
theorem szRotator_any (cs : List Value) (r : Rot) (B : Nat) (w : World) (left : Int) (hB0 : B ≤ w.heap.size) (h : rotsE.rd w B cs r) (h0 : 0 ≤ left) (h1 : left ≤ 1048576) :
    Calls Try.prog 13 #[.agg cs.toArray, .int .i64 left] w (Gives (.int .i64 (lim (r.next.length + sumLen r.next + r.fin.length) left)) w) := by
  obtain ⟨v3, v4, rfl, b1, b2, h3, h4⟩ := rd_Rot h
  obtain ⟨s3, n3, c3, rfl⟩ := rd_slice h3
  obtain ⟨s4, n4, c4, rfl⟩ := rd_slice h4
  have H3 := Lib.hid h3; clear h3 h
  have H4 := Lib.hid h4; clear h4
  go_enter Try.func13, Try.ntmps13
  go_wp2_with fail
  generalize hW : w.alloc _ = w1
  obtain ⟨A0, hB⟩ := blk1 hW
  clear hW
  refine (szInt64SS_any _ r.next w.heap.size _ _ hB.size (intssE.rd_of hB (intssE.rd_mono hB0 H3.out)) h0 h1).mono ?_
  rintro e w2 ⟨rfl, hbl⟩
  have B2 := hB.trans (hbl.mono hB.size)
  have A1 := A0.of hbl A0.lt
  have c3 := A1.cell 3 rfl
  clear A0 A1 hbl hB
  by_cases hx : left < (r.next.length + sumLen r.next : Nat)
  · rw [lim_of_lt hx]
    have hr := Lib.hid (lim_of_lt (t := r.next.length + sumLen r.next + r.fin.length) (left := left) (by omega))
    go_wp2
    go_ret
    exact ⟨by rw [hr.out]; rfl, B2⟩
  · rw [lim_of_ge hx]
    obtain ⟨q, hq⟩ : ∃ q : Int, q = left - (r.next.length + sumLen r.next : Nat) := ⟨_, rfl⟩
    rw [← hq]
    have q0 : 0 ≤ q := by omega
    have q1 : q ≤ 1048576 := by omega
    have ht : ¬ q < 0 := by omega
    have HQ := Lib.hid hq; clear hq
    go_wp2_with fail
    refine (szInt64S_any _ r.fin w.heap.size _ _ (intsE.rd_of B2 (intsE.rd_mono hB0 H4.out)) q0 q1).mono ?_
    rintro e w3 ⟨rfl, hbl⟩
    have B3 := B2.trans (hbl.mono B2.size)
    clear hbl B2
    by_cases hy : q < r.fin.length
    · rw [lim_of_lt hy]
      have hr := Lib.hid (lim_of_lt (t := r.next.length + sumLen r.next + r.fin.length) (left := left) (by have := HQ.out; omega))
      go_wp2
      go_ret
      exact ⟨by rw [hr.out]; rfl, B3⟩
    · rw [lim_of_ge hy]
      have hr := Lib.hid (lim_of_ge (t := r.next.length + sumLen r.next + r.fin.length) (left := left) (by have := HQ.out; omega))
      have ht2 : ¬ q - (r.fin.length : Int) < 0 := by omega
      go_wp2
      go_ret
      exact ⟨by rw [hr.out]; have := HQ.out; show Ending.returned (.int .i64 (q - (r.fin.length : Int))) = _; congr 2; omega, B3⟩

end Go.Proofs.Ytciclhklljdlgaa
