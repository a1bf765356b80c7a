/-
  The program's ordered: its own slice of integers, sorted, each once.
-/
import Derived.Test.YtaedgicglddihaaSetE
import Derived.Test.YtaedgicglddihaaShelfOrd
import Derived.Sort.OwnSortedInts
import Derived.Test.YtaedgicglddihaaButMono
import Derived.Shelf.SortM.SortNone
import Derived.Lib.SlicesCompact
import Derived.Test.YtaedgicglddihaaRows
namespace Go.Proofs.Ytaedgicglddihaa
open Go.RowKit Go.Sort

theorem owAll_ints {w : World} {l : List Int} {xss : List (List Value)} {fps : List (List Nat)} (h : OwAll intE w l xss fps) : xss.flatten = l.map (Value.int .i64) ∧ fps.flatten = [] ∧ ∀ x, x ∈ l → -9223372036854775808 ≤ x ∧ x ≤ 9223372036854775807 := by
  induction h with
  | nil => exact ⟨rfl, rfl, fun x hx => by cases hx⟩
  | cons h1 h2 ih =>
    obtain ⟨⟨rfl, hb⟩, rfl⟩ := h1
    refine ⟨by simp [ih.1], by simp [ih.2.1], fun x hx => ?_⟩
    rcases List.mem_cons.1 hx with rfl | hx
    · exact hb
    · exact ih.2.2 x hx

theorem owAll_mk (w : World) (l : List Int) (hb : ∀ x, x ∈ l → -9223372036854775808 ≤ x ∧ x ≤ 9223372036854775807) : OwAll intE w l (l.map fun x => [Value.int .i64 x]) (l.map fun _ => []) := by
  induction l with
  | nil => exact .nil
  | cons x l ih => exact .cons ⟨⟨rfl, hb x (by simp)⟩, rfl⟩ (ih fun y hy => hb y (by simp [hy]))

theorem flat_ints (l : List Int) : (l.map fun x => [Value.int .i64 x]).flatten = l.map (Value.int .i64) := by
  induction l with
  | nil => rfl
  | cons x l ih => simp [ih]
theorem flat_nils (l : List Int) : (l.map fun _ => ([] : List Nat)).flatten = [] := by
  induction l with
  | nil => rfl
  | cons x l ih => simp [ih]

theorem ints_own_mk {W : World} {v : Value} {l : List Int} (hr : W.ownsRow 0 2 1 v l.length (l.map (Value.int .i64))) (hb : ∀ x, x ∈ l → -9223372036854775808 ≤ x ∧ x ≤ 9223372036854775807) : intsE.ow W [v] l v.ownBlock.toList :=
  ⟨v, _, _, rfl, owAll_mk W l hb, by rw [flat_ints]; exact hr, by rw [flat_nils]; simp⟩

theorem but_of_grown {w w' : World} {g : Nat} (h : w.grownBy w' (some g)) : But [g] w w' := by
  obtain ⟨a, b, c, d, e⟩ := h
  exact ⟨a, b, c, d, fun k hk hn => e k hk (fun x => hn (by simp [Option.some.inj x]))⟩

theorem row_short {W : World} {g cap : Nat} {a b : List Int} (h : W.ownsRow 0 2 1 (.slice (some ⟨g, 0, none⟩) (a ++ b).length cap) (a ++ b).length ((a ++ b).map (Value.int .i64))) : W.ownsRow 0 2 1 (.slice (some ⟨g, 0, none⟩) a.length cap) a.length (a.map (Value.int .i64)) := by
  obtain ⟨-, h⟩ := h
  rcases h with ⟨h, -⟩ | ⟨g', cap', cur, e, h1, h2, h3, h4, h5, h6⟩
  · cases h
  simp only [Value.slice.injEq, Option.some.injEq, Addr.mk.injEq, and_true] at e
  obtain ⟨rfl, -, rfl⟩ := e
  refine ⟨by simp, .inr ⟨g, cap, cur, rfl, h1, h2, by rw [List.length_append] at h3; omega, h4, h5, ?_⟩⟩
  have := congrArg (List.take (a.length * 1)) h6
  rw [List.take_take, List.map_append, List.take_left' (by simp)] at this
  rw [← this]
  congr 1
  rw [List.length_append]
  omega

set_option maxHeartbeats 1000000 in
theorem ordered_any {w0 w : World} {v : Value} {l : List Int} (S : Star w0 w [oE intsE [v] l]) (hl : l.length ≤ 1000000) :
    Calls Try.prog 22 #[v] w (Makes intsE id (Lib.compact (l.mergeSort fun x y => decide (x ≤ y))) w0) := by
  obtain ⟨f, hf⟩ := S.own 0 rfl
  obtain ⟨v', xss, fps, he, h1, h2, -⟩ := hf
  simp only [List.cons.injEq, and_true] at he
  subst he
  obtain ⟨e1, -, hb⟩ := owAll_ints h1
  rw [e1] at h2
  replace h2 : w.ownsRow 0 2 1 v l.length (l.map (Value.int .i64)) := h2
  rcases h2.2 with ⟨rfl, hn⟩ | ⟨g, cap, cur, rfl, hbase, hh, k1, k2, k3, k4⟩
  · have hl0 : l = [] := List.eq_nil_of_length_eq_zero hn
    subst hl0
    have c1 := AnyM.slices_Sort_int_none Try.layS none 0 w
    have c2 := AnyG.slices_Compact_int_empty Try.layC none 0 w
    change Calls Try.prog 26 _ _ _ at c1
    change Calls Try.prog 27 _ _ _ at c2
    go_enter Try.func22, Try.ntmps22
    go_wp2_with fail
    refine c1.mono ?_
    rintro e w1 ⟨rfl, rfl⟩
    go_wp2_with fail
    refine c2.mono ?_
    rintro e w2 ⟨rfl, rfl⟩
    go_wp2
    go_ret
    rw [show Lib.compact (List.mergeSort ([] : List Int) fun x y => decide (x ≤ y)) = [] from by rw [List.mergeSort_nil]; rfl]
    exact S.done1
  obtain ⟨z, hz⟩ : ∃ z, z = l.mergeSort fun x y => decide (x ≤ y) := ⟨_, rfl⟩
  have hzl : z.length = l.length := by rw [hz]; exact List.length_mergeSort _
  have hzb : ∀ x, x ∈ z → -9223372036854775808 ≤ x ∧ x ≤ 9223372036854775807 := by
    rw [hz]; exact fun x hx => hb x ((List.mergeSort_perm _ _).subset hx)
  have c1 := AnyM.slices_Sort_int Try.layS g 0 cap l w (holds_of_blockI hh (by simpa using k4)) (Array.getElem?_eq_some_iff.1 hh).1 (by omega)
  change Calls Try.prog 26 _ _ _ at c1
  rw [← hz] at c1 ⊢
  have C1 := Lib.hid c1
  clear c1
  have hown1 : ∀ n os, (grow (putRow (Value.int .i64) (Sort.ahead w n) g 0 z.toArray) os).ownsRow 0 2 1 (.slice (some ⟨g, 0, none⟩) l.length cap) l.length (z.map (Value.int .i64)) := fun n os => ownsRow_sortedI hzl hbase hh k1 k2 (by simpa using k3)
  have hgr1 : ∀ n os, w.grownBy (grow (putRow (Value.int .i64) (Sort.ahead w n) g 0 z.toArray) os) (some g) := fun n os => grownBy_sortedI _
  have HO1 := Lib.hid hown1
  have HG1 := Lib.hid hgr1
  clear hown1 hgr1 h1 h2 e1 hz k3 k4 hh
  go_enter Try.func22, Try.ntmps22
  go_wp2_with fail
  refine C1.out.mono ?_
  rintro e w1 ⟨rfl, n, os, hw1⟩
  have o1 := HO1.out n os
  have g1 := HG1.out n os
  rw [← hw1] at o1 g1
  clear C1 HO1 HG1 hw1
  rw [← hzl] at o1 k1 ⊢
  have ow1 := ints_own_mk o1 hzb
  have S1 : Star w0 w1 [oE intsE [.slice (some ⟨g, 0, none⟩) z.length cap] z] := by
    refine S.upd (P' := oE intsE [.slice (some ⟨g, 0, none⟩) z.length cap] z) ?_
    rintro fp ⟨v', xs, fs, he, -, -, rfl⟩ nd hlt
    simp only [List.cons.injEq, and_true] at he
    subst he
    have hgw := hlt g (by simp [Value.ownBlock])
    refine ⟨[g], ow1, by simp, fun b hb => by rw [List.mem_singleton.1 hb]; exact .inl (by simp [Value.ownBlock]), fun b hb => by rw [List.mem_singleton.1 hb]; exact Nat.lt_of_lt_of_le hgw (but_of_grown g1).size, ?_⟩
    exact (but_of_grown g1).mono (fun b hb => by rw [List.mem_singleton.1 hb]; simp [Value.ownBlock])
  clear S ow1 g1
  obtain ⟨-, o1⟩ := o1
  rcases o1 with ⟨o1, -⟩ | ⟨g', cap', cur', e, m1, m2, m3, m4, m5, m6⟩
  · cases o1
  simp only [Value.slice.injEq, Option.some.injEq, Addr.mk.injEq, and_true] at e
  obtain ⟨rfl, -, rfl⟩ := e
  have c2 := AnyG.slices_Compact_int Try.layC g 0 cap z w1 (holds_of_blockI m2 (by simpa using m6)) (by omega) k1
  change Calls Try.prog 27 _ _ _ at c2
  obtain ⟨y, hy⟩ : ∃ y, y = Lib.compact z := ⟨_, rfl⟩
  have hyb : ∀ x, x ∈ y → x ∈ z := by
    rw [hy]
    intro x hx
    unfold Lib.compact Lib.compactUpTo at hx
    obtain ⟨i, hi, rfl⟩ := List.mem_map.1 hx
    have hi2 := List.mem_range.1 (List.mem_filter.1 hi).1
    rw [getElem!_pos z.toArray i (by simpa using hi2)]
    simp
  have hyl : y.length ≤ z.length := by
    rw [hy]
    unfold Lib.compact Lib.compactUpTo
    rw [List.length_map]
    exact Nat.le_trans (List.length_filter_le _ _) (by simp)
  rw [← hy] at c2
  obtain ⟨tl, htl⟩ : ∃ t, t = List.replicate (z.length - y.length) (0 : Int) := ⟨_, rfl⟩
  rw [← htl] at c2
  have hyz : (y ++ tl).length = z.length := by rw [htl, List.length_append, List.length_replicate]; omega
  have hown2 : ∀ q, (putRow (Value.int .i64) (Sort.ahead w1 q) g 0 (y ++ tl).toArray).ownsRow 0 2 1 (.slice (some ⟨g, 0, none⟩) y.length cap) y.length (y.map (Value.int .i64)) := fun q => by
    have := ownsRow_sortedI (n := q) (os := #[]) hyz m1 m2 (by omega) m4 (by simpa using m5)
    rw [grow_empty, ← hyz] at this
    exact row_short this
  have hgr2 : ∀ q, w1.grownBy (putRow (Value.int .i64) (Sort.ahead w1 q) g 0 (y ++ tl).toArray) (some g) := fun q => by
    have := grownBy_sortedI (w := w1) (g := g) (n := q) (os := #[]) (y ++ tl).toArray
    rw [grow_empty] at this
    exact this
  have C2 := Lib.hid c2
  have HO2 := Lib.hid hown2
  have HG2 := Lib.hid hgr2
  have HY := Lib.hid hy
  have HYB := Lib.hid (fun x hx => hzb x (hyb x hx))
  clear c2 hown2 hgr2 hy m1 m2 m3 m4 m5 m6 hyz htl hyb hzb hyl hzl
  go_wp2_with fail
  refine C2.out.mono ?_
  rintro e w2 ⟨rfl, q, hw2⟩
  have o2 := HO2.out q
  have g2 := HG2.out q
  rw [← hw2] at o2 g2
  clear C2 HO2 HG2 hw2
  have ow2 := ints_own_mk o2 HYB.out
  have S2 : Star w0 w2 [oE intsE [.slice (some ⟨g, 0, none⟩) y.length cap] y] := by
    refine S1.upd (P' := oE intsE [.slice (some ⟨g, 0, none⟩) y.length cap] y) ?_
    rintro fp ⟨v', xs, fs, he, -, -, rfl⟩ nd hlt
    simp only [List.cons.injEq, and_true] at he
    subst he
    have hgw := hlt g (by simp [Value.ownBlock])
    refine ⟨[g], ow2, by simp, fun b hb => by rw [List.mem_singleton.1 hb]; exact .inl (by simp [Value.ownBlock]), fun b hb => by rw [List.mem_singleton.1 hb]; exact Nat.lt_of_lt_of_le hgw (but_of_grown g2).size, ?_⟩
    exact (but_of_grown g2).mono (fun b hb => by rw [List.mem_singleton.1 hb]; simp [Value.ownBlock])
  clear S1 ow2 g2 o2
  go_wp2
  go_ret
  rw [← HY.out]
  exact S2.done1

end Go.Proofs.Ytaedgicglddihaa
