/-
  The comparisons of lists of strings, and of lists of these (written by a program of this claim's own, gen_eq.py).
-/
import Derived.Laws.StructEq
import Derived.Test.YtmbecaiieibcjaaLStringSS
namespace Go.Proofs.Ytmbecaiieibcjaa
open Go.RowKit

set_option maxHeartbeats 400000 in
theorem sEqStrs_any (va vb : Value) (la lb : List ByteArray) (B B' : Nat) (w : World) (ha : strsE.rd w B [va] la) (hb : strsE.rd w B' [vb] lb) :
    Calls Try.prog 22 #[va, vb] w (Gives (.bool (decide (la = lb))) w) := by
  obtain ⟨a, ca, rfl, a1, a2, _, a4⟩ := rd_strs ha
  obtain ⟨b, cb, rfl, b1, b2, _, b4⟩ := rd_strs hb
  clear ha hb
  have H4 := Lib.hid a4; clear a4
  have K4 := Lib.hid b4; clear b4
  by_cases hlen : la.length = lb.length
  · obtain ⟨n, hn⟩ : ∃ n, n = la.length := ⟨_, rfl⟩
    rw [← hn] at hlen H4 a1 ⊢
    rw [← hlen] at K4 b1 ⊢
    have Hn := Lib.hid hn; clear hn
    have Hl := Lib.hid hlen; clear hlen
    go_enter Try.func22, Try.ntmps22
    go_wp2
    go_loopw [5, 13] (fun _ i wr => ∃ k : Nat, k ≤ n ∧ i = .int .i64 k ∧ Below w.heap.size w wr ∧ Hid (∀ i, i < k → la[i]?.getD ByteArray.empty = lb[i]?.getD ByteArray.empty)) (fun _ i _ => n - (intOf i).toNat)
    case atStart => exact ⟨0, by omega, rfl, Below.refl _ _, Lib.hid (fun i hi => absurd hi (by omega))⟩
    case round =>
      obtain ⟨k, hk, rfl, hB, HE⟩ := hrel
      by_cases hlt : k < n
      · obtain ⟨p, o, rfl, _, hc, -⟩ := H4.out k hlt
        obtain ⟨p', o', rfl, _, hc', -⟩ := K4.out k hlt
        have c1 := (hB.cell (World.block_lt_of_cell? w _ hc)).trans hc
        have c2 := (hB.cell (World.block_lt_of_cell? w _ hc')).trans hc'
        clear hc hc'
        generalize hx : la[k]?.getD ByteArray.empty = x at *
        generalize hy : lb[k]?.getD ByteArray.empty = y at *
        have HX := Lib.hid hx; have HY := Lib.hid hy; clear hx hy
        by_cases he : x = y
        · have heb : (x.toList == y.toList) = true := by rw [he]; simp
          have He := Lib.hid he; clear he
          go_wp2
          go_quiet (fail)
          go_wp2
          go_roundw
          case rel => exact ⟨k + 1, by omega, by go_num, below_drewN hB _, Lib.hid (fun i hi => by by_cases h : i = k; (subst h; rw [HX.out, HY.out]; exact He.out); exact HE.out i (by omega))⟩
          case measure => simp [intOf]; omega
        · have heb : (x.toList == y.toList) = false := strs_ne he
          have He := Lib.hid he; clear he
          go_wp2
          go_quiet (fail)
          go_wp2
          go_ret
          have : la ≠ lb := fun e => He.out (by rw [← HX.out, ← HY.out, e])
          exact ⟨by simp [this], below_drewN hB _⟩
      · obtain rfl : k = n := by omega
        go_wp2
        go_ret
        have : la = lb := ext_getD ByteArray.empty (by rw [← Hn.out, Hl.out]) (fun i hi => HE.out i (by rw [Hn.out]; exact hi))
        exact ⟨by simp [this], hB⟩
  · have hb := bne_len hlen
    have : la ≠ lb := fun e => hlen (by rw [e])
    have Ht := Lib.hid this; clear this
    go_enter Try.func22, Try.ntmps22
    go_wp2
    go_ret
    exact ⟨by simp [Ht.out], Below.refl _ _⟩

theorem sEqStrs_is (r : Bool) (va vb : Value) (la lb : List ByteArray) (B B' : Nat) (w : World) (hr : decide (la = lb) = r) (ha : strsE.rd w B [va] la) (hb : strsE.rd w B' [vb] lb) :
    Calls Try.prog 22 #[va, vb] w (Gives (.bool r) w) := hr ▸ sEqStrs_any va vb la lb B B' w ha hb

set_option maxHeartbeats 400000 in
theorem sEqFStrs_any (va vb : Value) (la lb : List (List ByteArray)) (B B' : Nat) (w : World) (f : FuncId) (hB1 : B ≤ w.heap.size) (hB2 : B' ≤ w.heap.size) (ha : strssE.rd w B [va] la) (hb : strssE.rd w B' [vb] lb)
    (hcf : ∀ args w1, (callFunc f args).run Try.prog w1 = .ok (.enter f args) w1)
    (hf : ∀ x y l m w1, Below w.heap.size w w1 → strsE.rd w1 B [x] l → strsE.rd w1 B' [y] m → Calls Try.prog f #[x, y] w1 (Gives (.bool (decide (l = m))) w1)) :
    Calls Try.prog 21 #[va, vb, .func (.func f) #[] #[]] w (Gives (.bool (decide (la = lb))) w) := by
  obtain ⟨a, ca, rfl, a1, a2, -, a4⟩ := rd_slice1 rfl ha
  obtain ⟨b, cb, rfl, b1, b2, -, b4⟩ := rd_slice1 rfl hb
  clear ha hb
  have H4 := Lib.hid a4; clear a4
  have K4 := Lib.hid b4; clear b4
  have Hf := Lib.hid hf; clear hf
  by_cases hlen : la.length = lb.length
  · obtain ⟨n, hn⟩ : ∃ n, n = la.length := ⟨_, rfl⟩
    rw [← hn] at hlen H4 a1 ⊢
    rw [← hlen] at K4 b1 ⊢
    have Hn := Lib.hid hn; clear hn
    have Hl := Lib.hid hlen; clear hlen
    go_enter Try.func21, Try.ntmps21
    go_wp2
    go_loopw [7, 8, 9, 17] (fun _ _ _ i wr => ∃ k : Nat, k ≤ n ∧ i = .int .i64 k ∧ Below w.heap.size w wr ∧ Hid (∀ i, i < k → la[i]?.getD [] = lb[i]?.getD [])) (fun _ _ _ i _ => n - (intOf i).toNat)
    case atStart => exact ⟨0, by omega, rfl, Below.refl _ _, Lib.hid (fun i hi => absurd hi (by omega))⟩
    case round =>
      obtain ⟨k, hk, rfl, hB, HE⟩ := hrel
      by_cases hlt : k < n
      · obtain ⟨p, o, v1, rfl, -, hc, hr1⟩ := H4.out k hlt
        obtain ⟨p', o', v2, rfl, -, hc', hr2⟩ := K4.out k hlt
        have g1 := World.block_lt_of_cell? w _ hc
        have g2 := World.block_lt_of_cell? w _ hc'
        have c1 := (hB.cell g1).trans hc
        have c2 := (hB.cell g2).trans hc'
        have R1 := Lib.hid (strsE.rd_of (hB.mono hB1) hr1); clear hr1
        have R2 := Lib.hid (strsE.rd_of (hB.mono hB2) hr2); clear hr2
        clear hc hc' g1 g2
        obtain ⟨x, hx⟩ : ∃ x, x = la[k]?.getD default := ⟨_, rfl⟩
        obtain ⟨y, hy⟩ : ∃ y, y = lb[k]?.getD default := ⟨_, rfl⟩
        rw [← hx] at R1
        rw [← hy] at R2
        have HX : Hid (x = la[k]?.getD []) := Lib.hid hx; clear hx
        have HY : Hid (y = lb[k]?.getD []) := Lib.hid hy; clear hy
        go_wp2_with fail
        refine (Hf.out _ _ x y _ hB R1.out R2.out).mono ?_
        rintro e w1 ⟨rfl, hbl⟩
        have B1 := Lib.hid (hB.trans (hbl.mono hB.size)); clear hB hbl
        by_cases he : x = y
        · have ht : decide (x = y) = true := decide_eq_true he
          rw [ht]
          have He := Lib.hid he; clear he
          go_wp2
          go_roundw
          case rel => exact ⟨k + 1, by omega, by go_num, B1.out, Lib.hid (fun i hi => by by_cases h : i = k; (subst h; rw [← HX.out, ← HY.out]; exact He.out); exact HE.out i (by omega))⟩
          case measure => simp [intOf]; omega
        · have ht : decide (x = y) = false := decide_eq_false he
          rw [ht]
          have He := Lib.hid he; clear he
          go_wp2
          go_ret
          have : la ≠ lb := fun e => He.out (by rw [HX.out, HY.out, e])
          exact ⟨by simp [this], B1.out⟩
      · obtain rfl : k = n := by omega
        go_wp2
        go_ret
        have : la = lb := ext_getD [] (by rw [← Hn.out, Hl.out]) (fun i hi => HE.out i (by rw [Hn.out]; exact hi))
        exact ⟨by simp [this], hB⟩
  · have hb := bne_len hlen
    have : la ≠ lb := fun e => hlen (by rw [e])
    have Ht := Lib.hid this; clear this
    go_enter Try.func21, Try.ntmps21
    go_wp2
    go_ret
    exact ⟨by simp [Ht.out], Below.refl _ _⟩

theorem sEqFStrs_eq (va vb : Value) (la lb : List (List ByteArray)) (B B' : Nat) (w : World) (hB1 : B ≤ w.heap.size) (hB2 : B' ≤ w.heap.size) (ha : strssE.rd w B [va] la) (hb : strssE.rd w B' [vb] lb) :
    Calls Try.prog 21 #[va, vb, .func (.func 22) #[] #[]] w (Gives (.bool (decide (la = lb))) w) :=
  sEqFStrs_any va vb la lb B B' w 22 hB1 hB2 ha hb (fun _ _ => by kernel_rfl) (fun x y l m w1 hb1 hx hy => sEqStrs_any x y l m B B' w1 hx hy)

theorem sEqFStrs_is (r : Bool) (va vb : Value) (la lb : List (List ByteArray)) (B B' : Nat) (w : World) (hB1 : B ≤ w.heap.size) (hB2 : B' ≤ w.heap.size) (hr : decide (la = lb) = r) (ha : strssE.rd w B [va] la) (hb : strssE.rd w B' [vb] lb) :
    Calls Try.prog 21 #[va, vb, .func (.func 22) #[] #[]] w (Gives (.bool r) w) := hr ▸ sEqFStrs_eq va vb la lb B B' w hB1 hB2 ha hb

end Go.Proofs.Ytmbecaiieibcjaa
