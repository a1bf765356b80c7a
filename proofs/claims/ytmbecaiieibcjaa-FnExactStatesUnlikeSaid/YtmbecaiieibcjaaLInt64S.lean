/-
  Contracts of the laws' own helpers at one slice type (written by a program of this claim's own, gen_leaf.py).
-/
import Derived.Test.YtmbecaiieibcjaaRows
import Derived.Test.YtmbecaiieibcjaaLeafA
namespace Go.Proofs.Ytmbecaiieibcjaa
open Go.RowKit

theorem info_Int64S : (Try.prog.info? 2).map (fun i => (i.zero, i.size, i.bytes)) = some (some (.int .i64 0), 1, 8) := by kernel_rfl

set_option maxHeartbeats 400000 in
theorem toInt64S_any (v : Value) (l : List Int) (B : Nat) (w : World) (h : intsE.rd w B [v] l) (hl : l.length ≤ 1048576) :
    Calls Try.prog 49 #[v] w (Makes intsE id l w) := by
  obtain ⟨a, cap, rfl, h1, h2, h3, h4⟩ := rd_ints h
  obtain ⟨i0, hi, hz0, hz1, hz2⟩ := info_parts info_Int64S
  obtain ⟨n, hn⟩ : ∃ n, n = l.length := ⟨_, rfl⟩
  rw [← hn] at hl h4 h1 ⊢
  have hmk := make_run (P := Try.prog) Try.underlying67 hi hz0 hz1 n (by rw [hz2]; omega) (by omega)
  have hmo := made_owns (w := w) (ty := 2) (.int .i64 0) n (by simp [maxLen]; omega)
  have Hn := Lib.hid hn; clear hn h
  have H4 := Lib.hid h4; clear h4
  have Hmo := Lib.hid hmo; clear hmo
  clear hi hz0 hz1 hz2
  go_enter Try.func49, Try.ntmps49
  go_wp2
  simp only [Value.cells] at *
  have hb0 : Below w.heap.size w (w.alloc (Obj.cells (madeCells #[.int .i64 0] n) 2)) := (Below.refl _ _).alloc (Nat.le_refl _) _
  have HB0 := Lib.hid hb0; clear hb0
  generalize w.alloc (Obj.cells (madeCells #[.int .i64 0] n) 2) = w1 at *
  obtain ⟨g, hg⟩ : ∃ g, g = w.heap.size := ⟨_, rfl⟩
  rw [← hg] at Hmo HB0 ⊢
  have Hg := Lib.hid hg; clear hg hmk
  go_loopw [4] (fun i wr => ∃ k : Nat, k ≤ n ∧ i = .int .i64 k ∧ Below g w wr ∧ wr.ownsRow g 2 1 (.slice (some ⟨g, 0, none⟩) n n) n (((l.take k).map (Value.int .i64)) ++ List.replicate (n - k) (.int .i64 0))) (fun i _ => n - (intOf i).toNat)
  case atStart => exact ⟨0, by omega, rfl, HB0.out, by simpa using Hmo.out⟩
  case round =>
    obtain ⟨k, hk, rfl, hB, hO⟩ := hrel
    by_cases hlt : k < n
    · obtain ⟨b, o, rfl, hb, hc, hlo, hhi⟩ := H4.out k hlt
      have hb' := World.block_lt_of_cell? w _ hc
      have c1 : wr.cell? ⟨b, o + k, none⟩ = some (Value.int .i64 (l[k]?.getD 0)) := by rw [hB.cell (by rw [Hg.out]; exact hb')]; exact hc
      have c2 := hO.cellAt k (by omega)
      have c2' : wr.cell? ⟨g, k, none⟩ = some (.int .i64 0) := by
        have hlen : ((l.take k).map (Value.int .i64)).length = k := by have := Hn.out; simp; omega
        rw [c2, List.getElem?_append_right (by rw [hlen]; exact Nat.le_refl _), hlen, Nat.sub_self, List.getElem?_replicate, if_pos (by omega)]
      have c3 := hO.frozenAt k
      have HS := Lib.hid (hO.stored k (Value.int .i64 (l[k]?.getD 0)))
      clear c2 hO hc hb hb'
      have HX := Lib.hid (take_succ_map 0 (Value.int .i64) l k n (.int .i64 0) Hn.out.symm hlt)
      generalize l[k]?.getD 0 = x at *
      go_wp2
      go_roundw
      case rel => exact ⟨k + 1, by omega, by go_num, hB.setCell (Nat.le_refl _) _, by rw [← HX.out]; exact HS.out.1⟩
      case measure => simp [intOf]; omega
    · obtain rfl : k = n := by omega
      go_wp2
      go_ret
      have hl2 : l.take k = l := by rw [Hn.out, List.take_length]
      rw [hl2, Nat.sub_self, List.replicate_zero, List.append_nil] at hO
      refine makes_flat (g := g) (Value.int .i64) rfl (fun x hx => ?_) (by rw [← Hn.out]; exact hO) hB Hg.out
      obtain ⟨i, hi, rfl⟩ := List.getElem_of_mem hx
      obtain ⟨b, o, _, _, _, h5, h6⟩ := H4.out i (by rw [Hn.out]; exact hi)
      try simp [List.getElem?_eq_getElem hi] at h5 h6
      exact ⟨⟨rfl, h5, h6⟩, rfl⟩

set_option maxHeartbeats 400000 in
theorem eqInt64S_any (va vb : Value) (la lb : List Int) (B B' : Nat) (w : World) (ha : intsE.rd w B [va] la) (hb : intsE.rd w B' [vb] lb) :
    Calls Try.prog 58 #[va, vb] w (Gives (.bool (decide (la = lb))) w) := by
  obtain ⟨a, ca, rfl, a1, a2, _, a4⟩ := rd_ints ha
  obtain ⟨b, cb, rfl, b1, b2, _, b4⟩ := rd_ints hb
  clear ha hb
  have H4 := Lib.hid a4; clear a4
  have K4 := Lib.hid b4; clear b4
  by_cases hlen : la.length = lb.length
  · obtain ⟨n, hn⟩ : ∃ n, n = la.length := ⟨_, rfl⟩
    rw [← hn] at hlen H4 a1 ⊢
    rw [← hlen] at K4 b1 ⊢
    have Hn := Lib.hid hn; clear hn
    have Hl := Lib.hid hlen; clear hlen
    go_enter Try.func58, Try.ntmps58
    go_wp2
    go_loopw [5] (fun i wr => ∃ k : Nat, k ≤ n ∧ i = .int .i64 k ∧ Below w.heap.size w wr ∧ Hid (∀ i, i < k → la[i]?.getD 0 = lb[i]?.getD 0)) (fun i _ => n - (intOf i).toNat)
    case atStart => exact ⟨0, by omega, rfl, Below.refl _ _, Lib.hid (fun i hi => absurd hi (by omega))⟩
    case round =>
      obtain ⟨k, hk, rfl, hB, HE⟩ := hrel
      by_cases hlt : k < n
      · obtain ⟨p, o, rfl, _, hc, -, -⟩ := H4.out k hlt
        obtain ⟨p', o', rfl, _, hc', -, -⟩ := K4.out k hlt
        have c1 := (hB.cell (World.block_lt_of_cell? w _ hc)).trans hc
        have c2 := (hB.cell (World.block_lt_of_cell? w _ hc')).trans hc'
        clear hc hc'
        generalize hx : la[k]?.getD 0 = x at *
        generalize hy : lb[k]?.getD 0 = y at *
        have HX := Lib.hid hx; have HY := Lib.hid hy; clear hx hy
        by_cases he : x = y
        · have heb : (x != y) = false := by simp [he]
          have He := Lib.hid he; clear he
          go_wp2
          go_quiet (fail)
          go_wp2
          go_roundw
          case rel => exact ⟨k + 1, by omega, by go_num, below_drewN hB _, Lib.hid (fun i hi => by by_cases h : i = k; (subst h; rw [HX.out, HY.out]; exact He.out); exact HE.out i (by omega))⟩
          case measure => simp [intOf]; omega
        · have heb : (x != y) = true := by simpa using he
          have He := Lib.hid he; clear he
          go_wp2
          go_quiet (fail)
          go_wp2
          go_ret
          have : la ≠ lb := fun e => He.out (by rw [← HX.out, ← HY.out, e])
          exact ⟨by simp [this], below_drewN hB _⟩
      · obtain rfl : k = n := by omega
        go_wp2
        go_ret
        have : la = lb := ext_getD 0 (by rw [← Hn.out, Hl.out]) (fun i hi => HE.out i (by rw [Hn.out]; exact hi))
        exact ⟨by simp [this], hB⟩
  · have hb := bne_len hlen
    have : la ≠ lb := fun e => hlen (by rw [e])
    have Ht := Lib.hid this; clear this
    go_enter Try.func58, Try.ntmps58
    go_wp2
    go_ret
    exact ⟨by simp [Ht.out], Below.refl _ _⟩

theorem eqInt64S_is (r : Bool) (va vb : Value) (la lb : List Int) (B B' : Nat) (w : World) (hr : decide (la = lb) = r) (ha : intsE.rd w B [va] la) (hb : intsE.rd w B' [vb] lb) :
    Calls Try.prog 58 #[va, vb] w (Gives (.bool r) w) := hr ▸ eqInt64S_any va vb la lb B B' w ha hb

set_option maxHeartbeats 400000 in
theorem szInt64S_any (v : Value) (l : List Int) (B : Nat) (w : World) (left : Int) (h : intsE.rd w B [v] l) (h0 : 0 ≤ left) (h1 : left ≤ 1048576) :
    Calls Try.prog 46 #[v, .int .i64 left] w (Gives (.int .i64 (lim l.length left)) w) := by
  have a1 := len_le h
  obtain ⟨a, n, cap, rfl⟩ := rd_slice h
  obtain ⟨n', cap', hv, -⟩ := h
  obtain rfl : n = l.length := by simp at hv; exact hv.2.1
  clear hv
  by_cases hlt : left < l.length
  · have hr := Lib.hid (lim_of_lt hlt)
    have ht : left - (l.length : Int) < 0 := by omega
    go_enter Try.func46, Try.ntmps46
    go_wp2
    go_ret
    exact ⟨by rw [hr.out]; rfl, Below.refl _ _⟩
  · have hr := Lib.hid (lim_of_ge hlt)
    have ht : ¬ left - (l.length : Int) < 0 := by omega
    go_enter Try.func46, Try.ntmps46
    go_wp2
    go_ret
    exact ⟨by rw [hr.out]; rfl, Below.refl _ _⟩

end Go.Proofs.Ytmbecaiieibcjaa
