/-
  Contracts of the laws' own helpers at one slice type (written by a program of this claim's own, gen_leaf.py).
-/
import Derived.Test.YtcifdkliiljmkaaGreatDoorRows
import Derived.Test.YtcifdkliiljmkaaGreatDoorPackA
namespace Go.Proofs.YtcifdkliiljmkaaGreatDoor
open Go.RowKit

def sumF {α : Type} (f : α → Nat) (l : List α) : Nat := (l.map f).sum
theorem sumF_take {α : Type} (f : α → Nat) (l : List α) (k : Nat) (x : α) (h : l[k]? = some x) : sumF f (l.take (k + 1)) = sumF f (l.take k) + f x := by
  obtain ⟨hk, rfl⟩ := List.getElem?_eq_some_iff.1 h
  rw [List.take_succ_eq_append_getElem hk]
  unfold sumF
  rw [List.map_append, List.sum_append, List.map_cons, List.map_nil, List.sum_cons, List.sum_nil, Nat.add_zero]
theorem sumF_le {α : Type} (f : α → Nat) (l : List α) (k : Nat) : sumF f (l.take k) ≤ sumF f l := by
  conv => rhs; rw [← List.take_append_drop k l]
  simp only [sumF, List.map_append, List.sum_append]
  omega
theorem strs_ne {x y : ByteArray} (h : ¬ x = y) : (x.toList == y.toList) = false := by
  rw [beq_eq_false_iff_ne]
  intro e
  apply h
  rw [ByteArray.toList_eq, ByteArray.toList_eq] at e
  obtain ⟨a⟩ := x
  obtain ⟨b⟩ := y
  have : a = b := Array.toList_inj.1 e
  rw [this]
def strSz (l : List ByteArray) : Nat := l.length + sumF ByteArray.size l
def strsSz (l : List (List ByteArray)) : Nat := l.length + sumF strSz l

theorem info_StringS : (Tryz.prog.info? 9).map (fun i => (i.zero, i.size, i.bytes)) = some (some (.string ByteArray.empty), 1, 16) := by kernel_rfl

set_option maxHeartbeats 400000 in
theorem toStringS_any (v : Value) (l : List ByteArray) (B : Nat) (w : World) (h : strsE.rd w B [v] l) (hl : l.length ≤ 1048576) :
    Calls Tryz.prog 20 #[v] w (Makes strsE id l w) := by
  obtain ⟨a, cap, rfl, h1, h2, h3, h4⟩ := rd_strs h
  obtain ⟨i0, hi, hz0, hz1, hz2⟩ := info_parts info_StringS
  obtain ⟨n, hn⟩ : ∃ n, n = l.length := ⟨_, rfl⟩
  rw [← hn] at hl h4 h1 ⊢
  have hmk := make_run (P := Tryz.prog) Tryz.underlying51 hi hz0 hz1 n (by rw [hz2]; omega) (by omega)
  have hmo := made_owns (w := w) (ty := 9) (.string ByteArray.empty) n (by simp [maxLen]; omega)
  have Hn := Lib.hid hn; clear hn h
  have H4 := Lib.hid h4; clear h4
  have Hmo := Lib.hid hmo; clear hmo
  clear hi hz0 hz1 hz2
  go_enter Tryz.func20, Tryz.ntmps20
  go_wp2
  simp only [Value.cells] at *
  have hb0 : Below w.heap.size w (w.alloc (Obj.cells (madeCells #[.string ByteArray.empty] n) 9)) := (Below.refl _ _).alloc (Nat.le_refl _) _
  have HB0 := Lib.hid hb0; clear hb0
  generalize w.alloc (Obj.cells (madeCells #[.string ByteArray.empty] n) 9) = w1 at *
  obtain ⟨g, hg⟩ : ∃ g, g = w.heap.size := ⟨_, rfl⟩
  rw [← hg] at Hmo HB0 ⊢
  have Hg := Lib.hid hg; clear hg hmk
  go_loopw [4] (fun i wr => ∃ k : Nat, k ≤ n ∧ i = .int .i64 k ∧ Below g w wr ∧ wr.ownsRow g 9 1 (.slice (some ⟨g, 0, none⟩) n n) n (((l.take k).map (Value.string)) ++ List.replicate (n - k) (.string ByteArray.empty))) (fun i _ => n - (intOf i).toNat)
  case atStart => exact ⟨0, by omega, rfl, HB0.out, by simpa using Hmo.out⟩
  case round =>
    obtain ⟨k, hk, rfl, hB, hO⟩ := hrel
    by_cases hlt : k < n
    · obtain ⟨b, o, rfl, hb, hc, hsz⟩ := H4.out k hlt
      have hb' := World.block_lt_of_cell? w _ hc
      have c1 : wr.cell? ⟨b, o + k, none⟩ = some (Value.string (l[k]?.getD ByteArray.empty)) := by rw [hB.cell (by rw [Hg.out]; exact hb')]; exact hc
      have c2 := hO.cellAt k (by omega)
      have c2' : wr.cell? ⟨g, k, none⟩ = some (.string ByteArray.empty) := by
        have hlen : ((l.take k).map (Value.string)).length = k := by have := Hn.out; simp; omega
        rw [c2, List.getElem?_append_right (by rw [hlen]; exact Nat.le_refl _), hlen, Nat.sub_self, List.getElem?_replicate, if_pos (by omega)]
      have c3 := hO.frozenAt k
      have HS := Lib.hid (hO.stored k (Value.string (l[k]?.getD ByteArray.empty)))
      clear c2 hO hc hb hb'
      have HX := Lib.hid (take_succ_map ByteArray.empty (Value.string) l k n (.string ByteArray.empty) Hn.out.symm hlt)
      generalize l[k]?.getD ByteArray.empty = x at *
      go_wp2
      go_roundw
      case rel => exact ⟨k + 1, by omega, by go_num, hB.setCell (Nat.le_refl _) _, by rw [← HX.out]; exact HS.out.1⟩
      case measure => simp [intOf]; omega
    · obtain rfl : k = n := by omega
      go_wp2
      go_ret
      have hl2 : l.take k = l := by rw [Hn.out, List.take_length]
      rw [hl2, Nat.sub_self, List.replicate_zero, List.append_nil] at hO
      refine makes_flat (g := g) (Value.string) rfl (fun x hx => ?_) (by rw [← Hn.out]; exact hO) hB Hg.out
      obtain ⟨i, hi, rfl⟩ := List.getElem_of_mem hx
      obtain ⟨b, o, _, _, _, h5⟩ := H4.out i (by rw [Hn.out]; exact hi)
      exact ⟨⟨rfl, by simp [List.getElem?_eq_getElem hi] at h5; simpa [maxLen] using h5⟩, rfl⟩

set_option maxHeartbeats 400000 in
theorem eqStringS_any (va vb : Value) (la lb : List ByteArray) (B B' : Nat) (w : World) (ha : strsE.rd w B [va] la) (hb : strsE.rd w B' [vb] lb) :
    Calls Tryz.prog 22 #[va, vb] w (Gives (.bool (decide (la = lb))) w) := by
  obtain ⟨a, ca, rfl, a1, a2, _, a4⟩ := rd_strs ha
  obtain ⟨b, cb, rfl, b1, b2, _, b4⟩ := rd_strs hb
  clear ha hb
  have H4 := Lib.hid a4; clear a4
  have K4 := Lib.hid b4; clear b4
  by_cases hlen : la.length = lb.length
  · obtain ⟨n, hn⟩ : ∃ n, n = la.length := ⟨_, rfl⟩
    rw [← hn] at hlen H4 a1 ⊢
    rw [← hlen] at K4 b1 ⊢
    have Hn := Lib.hid hn; clear hn
    have Hl := Lib.hid hlen; clear hlen
    go_enter Tryz.func22, Tryz.ntmps22
    go_wp2
    go_loopw [5] (fun i wr => ∃ k : Nat, k ≤ n ∧ i = .int .i64 k ∧ Below w.heap.size w wr ∧ Hid (∀ i, i < k → la[i]?.getD ByteArray.empty = lb[i]?.getD ByteArray.empty)) (fun i _ => n - (intOf i).toNat)
    case atStart => exact ⟨0, by omega, rfl, Below.refl _ _, Lib.hid (fun i hi => absurd hi (by omega))⟩
    case round =>
      obtain ⟨k, hk, rfl, hB, HE⟩ := hrel
      by_cases hlt : k < n
      · obtain ⟨p, o, rfl, _, hc, -⟩ := H4.out k hlt
        obtain ⟨p', o', rfl, _, hc', -⟩ := K4.out k hlt
        have c1 := (hB.cell (World.block_lt_of_cell? w _ hc)).trans hc
        have c2 := (hB.cell (World.block_lt_of_cell? w _ hc')).trans hc'
        clear hc hc'
        generalize hx : la[k]?.getD ByteArray.empty = x at *
        generalize hy : lb[k]?.getD ByteArray.empty = y at *
        have HX := Lib.hid hx; have HY := Lib.hid hy; clear hx hy
        by_cases he : x = y
        · have heb : (x.toList == y.toList) = true := by rw [he]; simp
          have He := Lib.hid he; clear he
          go_wp2
          go_quiet (fail)
          go_wp2
          go_roundw
          case rel => exact ⟨k + 1, by omega, by go_num, below_drewN hB _, Lib.hid (fun i hi => by by_cases h : i = k; (subst h; rw [HX.out, HY.out]; exact He.out); exact HE.out i (by omega))⟩
          case measure => simp [intOf]; omega
        · have heb : (x.toList == y.toList) = false := strs_ne he
          have He := Lib.hid he; clear he
          go_wp2
          go_quiet (fail)
          go_wp2
          go_ret
          have : la ≠ lb := fun e => He.out (by rw [← HX.out, ← HY.out, e])
          exact ⟨by simp [this], below_drewN hB _⟩
      · obtain rfl : k = n := by omega
        go_wp2
        go_ret
        have : la = lb := ext_getD ByteArray.empty (by rw [← Hn.out, Hl.out]) (fun i hi => HE.out i (by rw [Hn.out]; exact hi))
        exact ⟨by simp [this], hB⟩
  · have hb := bne_len hlen
    have : la ≠ lb := fun e => hlen (by rw [e])
    have Ht := Lib.hid this; clear this
    go_enter Tryz.func22, Tryz.ntmps22
    go_wp2
    go_ret
    exact ⟨by simp [Ht.out], Below.refl _ _⟩

theorem eqStringS_is (r : Bool) (va vb : Value) (la lb : List ByteArray) (B B' : Nat) (w : World) (hr : decide (la = lb) = r) (ha : strsE.rd w B [va] la) (hb : strsE.rd w B' [vb] lb) :
    Calls Tryz.prog 22 #[va, vb] w (Gives (.bool r) w) := hr ▸ eqStringS_any va vb la lb B B' w ha hb

set_option maxHeartbeats 400000 in
theorem szStringS_raw (v : Value) (l : List (ByteArray)) (B : Nat) (w : World) (left : Int) (h : strsE.rd w B [v] l) (h0 : 0 ≤ left) (h1 : left ≤ 1048576) :
    Calls Tryz.prog 18 #[v, .int .i64 left] w (Gives (.int .i64 (lim (l.length + sumF ByteArray.size l) left)) w) := by
  obtain ⟨a, cap, rfl, a1, a2, -, h4⟩ := rd_slice1 rfl h
  clear h
  obtain ⟨n, hn⟩ : ∃ n, n = l.length := ⟨_, rfl⟩
  rw [← hn] at h4 a1 ⊢
  have Hn := Lib.hid hn; clear hn
  have H4 := Lib.hid h4; clear h4
  by_cases hlt : left < n
  · have hr := Lib.hid (lim_of_lt (t := n + sumF ByteArray.size l) (left := left) (by omega))
    have ht : left - (n : Int) < 0 := by omega
    go_enter Tryz.func18, Tryz.ntmps18
    go_wp2
    go_ret
    exact ⟨by rw [hr.out]; rfl, Below.refl _ _⟩
  · have ht : ¬ left - (n : Int) < 0 := by omega
    go_enter Tryz.func18, Tryz.ntmps18
    go_wp2
    go_loopw [1, 5] (fun r i wr => ∃ k : Nat, ∃ q : Int, k ≤ n ∧ i = .int .i64 k ∧ Below w.heap.size w wr ∧ r = .int .i64 q ∧ 0 ≤ q ∧ q ≤ 1048576 ∧ Hid (q = left - n - sumF ByteArray.size (l.take k))) (fun _ i _ => n - (intOf i).toNat)
    case atStart => exact ⟨0, left - n, by omega, rfl, Below.refl _ _, rfl, by omega, by omega, Lib.hid (by simp [sumF])⟩
    case round =>
      obtain ⟨k, q, hk, rfl, hB, rfl, q0, q1, HQ⟩ := hrel
      by_cases hkn : k < n
      · obtain ⟨b, o, vk, rfl, -, hc, hr⟩ := H4.out k hkn
        have c1 := (hB.cell (World.block_lt_of_cell? w _ hc)).trans hc
        have HR := Lib.hid (strE.rd_mono (Nat.le_refl _) hr)
        have HK := Lib.hid (get_some default (l := l) (k := k) (by rw [← Hn.out]; exact hkn))
        clear hc hr
        generalize l[k]?.getD default = x at *
        have hxs : x.size ≤ 9223372036854775807 := by have := HR.out.2; simpa [maxLen] using this
        obtain rfl : vk = .string x := by have := HR.out.1; simpa using this
        have hw : IntKind.i64.wrap (q - (x.size : Int)) = q - (x.size : Int) := IntWalk.i64_in _ ⟨by omega, by omega⟩
        have B1 := Lib.hid hB; clear hB
        have HT := Lib.hid (sumF_take ByteArray.size l k x HK.out)
        have HM := Lib.hid (sumF_le ByteArray.size l (k + 1))
        by_cases hx : q < x.size
        · have ht : q - (x.size : Int) < 0 := by omega
          have hr := Lib.hid (lim_of_lt (t := n + sumF ByteArray.size l) (left := left) (by have := HQ.out; have := HT.out; have := HM.out; omega))
          go_wp2
          go_ret
          exact ⟨by rw [hr.out]; rfl, B1.out⟩
        · have ht : ¬ q - (x.size : Int) < 0 := by omega
          go_wp2
          go_roundw
          case rel => exact ⟨k + 1, q - x.size, by omega, by go_num, B1.out, rfl, by omega, by omega, Lib.hid (by have := HQ.out; have := HT.out; omega)⟩
          case measure => simp [intOf]; omega
      · obtain rfl : k = n := by omega
        have hq : q = lim (k + sumF ByteArray.size l) left := by
          have h1 := HQ.out
          rw [Hn.out, List.take_length] at h1
          rw [lim_of_ge (by rw [Hn.out]; omega)]
          rw [Hn.out]
          omega
        have HQ2 := Lib.hid hq; clear hq
        go_wp2
        go_ret
        exact ⟨by rw [← HQ2.out]; rfl, hB⟩

theorem szStringS_any (v : Value) (l : List ByteArray) (B : Nat) (w : World) (left : Int) (h : strsE.rd w B [v] l) (h0 : 0 ≤ left) (h1 : left ≤ 1048576) :
    Calls Tryz.prog 18 #[v, .int .i64 left] w (Gives (.int .i64 (lim (strSz l) left)) w) := szStringS_raw v l B w left h h0 h1

end Go.Proofs.YtcifdkliiljmkaaGreatDoor
