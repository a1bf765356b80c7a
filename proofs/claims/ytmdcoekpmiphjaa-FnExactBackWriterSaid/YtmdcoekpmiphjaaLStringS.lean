/-
  Contracts of the laws' own helpers at one slice type (written by a program of this claim's own, gen_leaf.py).
-/
import Derived.Test.YtmdcoekpmiphjaaRows
import Derived.Test.YtmdcoekpmiphjaaLeafA
namespace Go.Proofs.Ytmdcoekpmiphjaa
open Go.RowKit

def sumF {α : Type} (f : α → Nat) (l : List α) : Nat := (l.map f).sum
theorem sumF_take {α : Type} (f : α → Nat) (l : List α) (k : Nat) (x : α) (h : l[k]? = some x) : sumF f (l.take (k + 1)) = sumF f (l.take k) + f x := by
  obtain ⟨hk, rfl⟩ := List.getElem?_eq_some_iff.1 h
  rw [List.take_succ_eq_append_getElem hk]
  unfold sumF
  rw [List.map_append, List.sum_append, List.map_cons, List.map_nil, List.sum_cons, List.sum_nil, Nat.add_zero]
theorem sumF_le {α : Type} (f : α → Nat) (l : List α) (k : Nat) : sumF f (l.take k) ≤ sumF f l := by
  conv => rhs; rw [← List.take_append_drop k l]
  simp only [sumF, List.map_append, List.sum_append]
  omega
theorem strs_ne {x y : ByteArray} (h : ¬ x = y) : (x.toList == y.toList) = false := by
  rw [beq_eq_false_iff_ne]
  intro e
  apply h
  rw [ByteArray.toList_eq, ByteArray.toList_eq] at e
  obtain ⟨a⟩ := x
  obtain ⟨b⟩ := y
  have : a = b := Array.toList_inj.1 e
  rw [this]
def strSz (l : List ByteArray) : Nat := l.length + sumF ByteArray.size l
def strsSz (l : List (List ByteArray)) : Nat := l.length + sumF strSz l

theorem info_StringS : (Try.prog.info? 9).map (fun i => (i.zero, i.size, i.bytes)) = some (some (.string ByteArray.empty), 1, 16) := by kernel_rfl

set_option maxHeartbeats 400000 in
theorem eqStringS_any (va vb : Value) (la lb : List ByteArray) (B B' : Nat) (w : World) (ha : strsE.rd w B [va] la) (hb : strsE.rd w B' [vb] lb) :
    Calls Try.prog 53 #[va, vb] w (Gives (.bool (decide (la = lb))) w) := by
  obtain ⟨a, ca, rfl, a1, a2, _, a4⟩ := rd_strs ha
  obtain ⟨b, cb, rfl, b1, b2, _, b4⟩ := rd_strs hb
  clear ha hb
  have H4 := Lib.hid a4; clear a4
  have K4 := Lib.hid b4; clear b4
  by_cases hlen : la.length = lb.length
  · obtain ⟨n, hn⟩ : ∃ n, n = la.length := ⟨_, rfl⟩
    rw [← hn] at hlen H4 a1 ⊢
    rw [← hlen] at K4 b1 ⊢
    have Hn := Lib.hid hn; clear hn
    have Hl := Lib.hid hlen; clear hlen
    go_enter Try.func53, Try.ntmps53
    go_wp2
    go_loopw [5] (fun i wr => ∃ k : Nat, k ≤ n ∧ i = .int .i64 k ∧ Below w.heap.size w wr ∧ Hid (∀ i, i < k → la[i]?.getD ByteArray.empty = lb[i]?.getD ByteArray.empty)) (fun i _ => n - (intOf i).toNat)
    case atStart => exact ⟨0, by omega, rfl, Below.refl _ _, Lib.hid (fun i hi => absurd hi (by omega))⟩
    case round =>
      obtain ⟨k, hk, rfl, hB, HE⟩ := hrel
      by_cases hlt : k < n
      · obtain ⟨p, o, rfl, _, hc, -⟩ := H4.out k hlt
        obtain ⟨p', o', rfl, _, hc', -⟩ := K4.out k hlt
        have c1 := (hB.cell (World.block_lt_of_cell? w _ hc)).trans hc
        have c2 := (hB.cell (World.block_lt_of_cell? w _ hc')).trans hc'
        clear hc hc'
        generalize hx : la[k]?.getD ByteArray.empty = x at *
        generalize hy : lb[k]?.getD ByteArray.empty = y at *
        have HX := Lib.hid hx; have HY := Lib.hid hy; clear hx hy
        by_cases he : x = y
        · have heb : (x.toList == y.toList) = true := by rw [he]; simp
          have He := Lib.hid he; clear he
          go_wp2
          go_quiet (fail)
          go_wp2
          go_roundw
          case rel => exact ⟨k + 1, by omega, by go_num, below_drewN hB _, Lib.hid (fun i hi => by by_cases h : i = k; (subst h; rw [HX.out, HY.out]; exact He.out); exact HE.out i (by omega))⟩
          case measure => simp [intOf]; omega
        · have heb : (x.toList == y.toList) = false := strs_ne he
          have He := Lib.hid he; clear he
          go_wp2
          go_quiet (fail)
          go_wp2
          go_ret
          have : la ≠ lb := fun e => He.out (by rw [← HX.out, ← HY.out, e])
          exact ⟨by simp [this], below_drewN hB _⟩
      · obtain rfl : k = n := by omega
        go_wp2
        go_ret
        have : la = lb := ext_getD ByteArray.empty (by rw [← Hn.out, Hl.out]) (fun i hi => HE.out i (by rw [Hn.out]; exact hi))
        exact ⟨by simp [this], hB⟩
  · have hb := bne_len hlen
    have : la ≠ lb := fun e => hlen (by rw [e])
    have Ht := Lib.hid this; clear this
    go_enter Try.func53, Try.ntmps53
    go_wp2
    go_ret
    exact ⟨by simp [Ht.out], Below.refl _ _⟩

theorem eqStringS_is (r : Bool) (va vb : Value) (la lb : List ByteArray) (B B' : Nat) (w : World) (hr : decide (la = lb) = r) (ha : strsE.rd w B [va] la) (hb : strsE.rd w B' [vb] lb) :
    Calls Try.prog 53 #[va, vb] w (Gives (.bool r) w) := hr ▸ eqStringS_any va vb la lb B B' w ha hb

end Go.Proofs.Ytmdcoekpmiphjaa
