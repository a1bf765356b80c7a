/-
  Contracts of the laws' own helpers at one slice type (written by a program of this claim's own, gen_leaf.py).
-/
import Derived.Test.YtcifdkliiljmkaaGreatDoorRows
import Derived.Test.YtcifdkliiljmkaaGreatDoorPackA
namespace Go.Proofs.YtcifdkliiljmkaaGreatDoor
open Go.RowKit

theorem info_BoolS : (Tryz.prog.info? 4).map (fun i => (i.zero, i.size, i.bytes)) = some (some (.bool false), 1, 1) := by kernel_rfl

set_option maxHeartbeats 400000 in
theorem toBoolS_any (v : Value) (l : List Bool) (B : Nat) (w : World) (h : boolsE.rd w B [v] l) (hl : l.length ≤ 1048576) :
    Calls Tryz.prog 33 #[v] w (Makes boolsE id l w) := by
  obtain ⟨a, cap, rfl, h1, h2, h3, h4⟩ := rd_bools h
  obtain ⟨i0, hi, hz0, hz1, hz2⟩ := info_parts info_BoolS
  obtain ⟨n, hn⟩ : ∃ n, n = l.length := ⟨_, rfl⟩
  rw [← hn] at hl h4 h1 ⊢
  have hmk := make_run (P := Tryz.prog) Tryz.underlying28 hi hz0 hz1 n (by rw [hz2]; omega) (by omega)
  have hmo := made_owns (w := w) (ty := 4) (.bool false) n (by simp [maxLen]; omega)
  have Hn := Lib.hid hn; clear hn h
  have H4 := Lib.hid h4; clear h4
  have Hmo := Lib.hid hmo; clear hmo
  clear hi hz0 hz1 hz2
  go_enter Tryz.func33, Tryz.ntmps33
  go_wp2
  simp only [Value.cells] at *
  have hb0 : Below w.heap.size w (w.alloc (Obj.cells (madeCells #[.bool false] n) 4)) := (Below.refl _ _).alloc (Nat.le_refl _) _
  have HB0 := Lib.hid hb0; clear hb0
  generalize w.alloc (Obj.cells (madeCells #[.bool false] n) 4) = w1 at *
  obtain ⟨g, hg⟩ : ∃ g, g = w.heap.size := ⟨_, rfl⟩
  rw [← hg] at Hmo HB0 ⊢
  have Hg := Lib.hid hg; clear hg hmk
  go_loopw [4] (fun i wr => ∃ k : Nat, k ≤ n ∧ i = .int .i64 k ∧ Below g w wr ∧ wr.ownsRow g 4 1 (.slice (some ⟨g, 0, none⟩) n n) n (((l.take k).map (Value.bool)) ++ List.replicate (n - k) (.bool false))) (fun i _ => n - (intOf i).toNat)
  case atStart => exact ⟨0, by omega, rfl, HB0.out, by simpa using Hmo.out⟩
  case round =>
    obtain ⟨k, hk, rfl, hB, hO⟩ := hrel
    by_cases hlt : k < n
    · obtain ⟨b, o, rfl, hb, hc⟩ := H4.out k hlt
      have hb' := World.block_lt_of_cell? w _ hc
      have c1 : wr.cell? ⟨b, o + k, none⟩ = some (Value.bool (l[k]?.getD false)) := by rw [hB.cell (by rw [Hg.out]; exact hb')]; exact hc
      have c2 := hO.cellAt k (by omega)
      have c2' : wr.cell? ⟨g, k, none⟩ = some (.bool false) := by
        have hlen : ((l.take k).map (Value.bool)).length = k := by have := Hn.out; simp; omega
        rw [c2, List.getElem?_append_right (by rw [hlen]; exact Nat.le_refl _), hlen, Nat.sub_self, List.getElem?_replicate, if_pos (by omega)]
      have c3 := hO.frozenAt k
      have HS := Lib.hid (hO.stored k (Value.bool (l[k]?.getD false)))
      clear c2 hO hc hb hb'
      have HX := Lib.hid (take_succ_map false (Value.bool) l k n (.bool false) Hn.out.symm hlt)
      generalize l[k]?.getD false = x at *
      go_wp2
      go_roundw
      case rel => exact ⟨k + 1, by omega, by go_num, hB.setCell (Nat.le_refl _) _, by rw [← HX.out]; exact HS.out.1⟩
      case measure => simp [intOf]; omega
    · obtain rfl : k = n := by omega
      go_wp2
      go_ret
      have hl2 : l.take k = l := by rw [Hn.out, List.take_length]
      rw [hl2, Nat.sub_self, List.replicate_zero, List.append_nil] at hO
      refine makes_flat (g := g) (Value.bool) rfl (fun x hx => ?_) (by rw [← Hn.out]; exact hO) hB Hg.out
      obtain ⟨i, hi, rfl⟩ := List.getElem_of_mem hx
      obtain ⟨b, o, _, _, _⟩ := H4.out i (by rw [Hn.out]; exact hi)
      try simp [List.getElem?_eq_getElem hi] at h5 h6
      exact ⟨rfl, rfl⟩

set_option maxHeartbeats 400000 in
theorem eqBoolS_any (va vb : Value) (la lb : List Bool) (B B' : Nat) (w : World) (ha : boolsE.rd w B [va] la) (hb : boolsE.rd w B' [vb] lb) :
    Calls Tryz.prog 39 #[va, vb] w (Gives (.bool (decide (la = lb))) w) := by
  obtain ⟨a, ca, rfl, a1, a2, _, a4⟩ := rd_bools ha
  obtain ⟨b, cb, rfl, b1, b2, _, b4⟩ := rd_bools hb
  clear ha hb
  have H4 := Lib.hid a4; clear a4
  have K4 := Lib.hid b4; clear b4
  by_cases hlen : la.length = lb.length
  · obtain ⟨n, hn⟩ : ∃ n, n = la.length := ⟨_, rfl⟩
    rw [← hn] at hlen H4 a1 ⊢
    rw [← hlen] at K4 b1 ⊢
    have Hn := Lib.hid hn; clear hn
    have Hl := Lib.hid hlen; clear hlen
    go_enter Tryz.func39, Tryz.ntmps39
    go_wp2
    go_loopw [5] (fun i wr => ∃ k : Nat, k ≤ n ∧ i = .int .i64 k ∧ Below w.heap.size w wr ∧ Hid (∀ i, i < k → la[i]?.getD false = lb[i]?.getD false)) (fun i _ => n - (intOf i).toNat)
    case atStart => exact ⟨0, by omega, rfl, Below.refl _ _, Lib.hid (fun i hi => absurd hi (by omega))⟩
    case round =>
      obtain ⟨k, hk, rfl, hB, HE⟩ := hrel
      by_cases hlt : k < n
      · obtain ⟨p, o, rfl, _, hc⟩ := H4.out k hlt
        obtain ⟨p', o', rfl, _, hc'⟩ := K4.out k hlt
        have c1 := (hB.cell (World.block_lt_of_cell? w _ hc)).trans hc
        have c2 := (hB.cell (World.block_lt_of_cell? w _ hc')).trans hc'
        clear hc hc'
        generalize hx : la[k]?.getD false = x at *
        generalize hy : lb[k]?.getD false = y at *
        have HX := Lib.hid hx; have HY := Lib.hid hy; clear hx hy
        have yes : ∀ (b : Bool) (W : World), Hid (la[k]?.getD false = b) → Hid (lb[k]?.getD false = b) → Hid (∀ i, i < k + 1 → la[i]?.getD false = lb[i]?.getD false) :=
          fun b _ h1 h2 => Lib.hid (fun i hi => by by_cases h : i = k; (subst h; rw [h1.out, h2.out]); exact HE.out i (by omega))
        have no : ∀ b c : Bool, b ≠ c → Hid (la[k]?.getD false = b) → Hid (lb[k]?.getD false = c) → la ≠ lb := fun b c hbc h1 h2 e => hbc (by rw [← h1.out, ← h2.out, e])
        have YES := Lib.hid yes; have NO := Lib.hid no; clear yes no
        cases x <;> cases y
        · go_wp2
          go_quiet (fail)
          go_wp2
          go_roundw
          case rel => exact ⟨k + 1, by omega, by go_num, below_drewN hB _, YES.out _ wr HX HY⟩
          case measure => simp [intOf]; omega
        · go_wp2
          go_quiet (fail)
          go_wp2
          go_ret
          have := NO.out _ _ (by decide) HX HY
          exact ⟨by simp [this], below_drewN hB _⟩
        · go_wp2
          go_quiet (fail)
          go_wp2
          go_ret
          have := NO.out _ _ (by decide) HX HY
          exact ⟨by simp [this], below_drewN hB _⟩
        · go_wp2
          go_quiet (fail)
          go_wp2
          go_roundw
          case rel => exact ⟨k + 1, by omega, by go_num, below_drewN hB _, YES.out _ wr HX HY⟩
          case measure => simp [intOf]; omega
      · obtain rfl : k = n := by omega
        go_wp2
        go_ret
        have : la = lb := ext_getD false (by rw [← Hn.out, Hl.out]) (fun i hi => HE.out i (by rw [Hn.out]; exact hi))
        exact ⟨by simp [this], hB⟩
  · have hb := bne_len hlen
    have : la ≠ lb := fun e => hlen (by rw [e])
    have Ht := Lib.hid this; clear this
    go_enter Tryz.func39, Tryz.ntmps39
    go_wp2
    go_ret
    exact ⟨by simp [Ht.out], Below.refl _ _⟩

theorem eqBoolS_is (r : Bool) (va vb : Value) (la lb : List Bool) (B B' : Nat) (w : World) (hr : decide (la = lb) = r) (ha : boolsE.rd w B [va] la) (hb : boolsE.rd w B' [vb] lb) :
    Calls Tryz.prog 39 #[va, vb] w (Gives (.bool r) w) := hr ▸ eqBoolS_any va vb la lb B B' w ha hb

set_option maxHeartbeats 400000 in
theorem szBoolS_any (v : Value) (l : List Bool) (B : Nat) (w : World) (left : Int) (h : boolsE.rd w B [v] l) (h0 : 0 ≤ left) (h1 : left ≤ 1048576) :
    Calls Tryz.prog 27 #[v, .int .i64 left] w (Gives (.int .i64 (lim l.length left)) w) := by
  have a1 := len_le h
  obtain ⟨a, n, cap, rfl⟩ := rd_slice h
  obtain ⟨n', cap', hv, -⟩ := h
  obtain rfl : n = l.length := by simp at hv; exact hv.2.1
  clear hv
  by_cases hlt : left < l.length
  · have hr := Lib.hid (lim_of_lt hlt)
    have ht : left - (l.length : Int) < 0 := by omega
    go_enter Tryz.func27, Tryz.ntmps27
    go_wp2
    go_ret
    exact ⟨by rw [hr.out]; rfl, Below.refl _ _⟩
  · have hr := Lib.hid (lim_of_ge hlt)
    have ht : ¬ left - (l.length : Int) < 0 := by omega
    go_enter Tryz.func27, Tryz.ntmps27
    go_wp2
    go_ret
    exact ⟨by rw [hr.out]; rfl, Below.refl _ _⟩

end Go.Proofs.YtcifdkliiljmkaaGreatDoor
