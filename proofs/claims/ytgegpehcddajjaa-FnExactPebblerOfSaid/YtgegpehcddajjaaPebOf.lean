/-
  PebblerOf: what the program and the reference answer (written by a program of this claim's own, gen_pebof.py).
-/
import Derived.Test.YtgegpehcddajjaaSpecTurn
import Derived.Test.YtgegpehcddajjaaStar
import Derived.Test.YtgegpehcddajjaaMPebbler
import Derived.Test.YtgegpehcddajjaaOver
import Derived.Deep.DeepCutAuto
namespace Go.Proofs.Ytgegpehcddajjaa
open Go.RowKit

/-- What is known of a turner that is one. -/
structure TurnOk (r : Turner) : Prop where
  l1 : 1 ≤ r.letters
  l3 : r.letters ≤ 3
  n1 : 1 ≤ r.moves.length
  n12 : r.moves.length ≤ 12
  s0 : 0 ≤ r.start
  sn : r.start ≤ r.moves.length - 1
  row : ∀ x, x ∈ r.moves → mrowOk x r.moves.length r.letters = true

theorem turnOk {r : Turner} (h : validTurn r = true) : TurnOk r := by
  unfold validTurn at h
  simp only [Bool.and_eq_true] at h
  obtain ⟨h1, h2, h3, h4⟩ := h
  have k1 := within_true.1 h1
  have k2 := within_true.1 h2
  have k3 := within_true.1 h3
  rw [List.all_eq_true] at h4
  exact ⟨k1.1, k1.2, by omega, by omega, k3.1, by omega, h4⟩

theorem TurnOk.len {r : Turner} (h : TurnOk r) {x : List Move} (hx : x ∈ r.moves) : (x.length : Int) = r.letters + 2 := by
  have := h.row x hx
  unfold mrowOk at this
  rw [Bool.and_eq_true] at this
  exact of_decide_eq_true this.1

def pebMove (m : Move) : PMove := ⟨m.to, m.dir, 0⟩
def pebRow (l : List Move) : List PMove := l.flatMap fun m => [pebMove m, pebMove m]

def pebblerOf (t : Turner) : Pebbler × Int := if validTurn t then (if 8 < t.moves.length then (default, 3) else (⟨t.letters, t.start, t.moves.map pebRow⟩, 0)) else (default, 1)

theorem pebRow_len (l : List Move) : (pebRow l).length = 2 * l.length := by
  induction l with
  | nil => rfl
  | cons a l ih => unfold pebRow at ih ⊢; rw [List.flatMap_cons, List.length_append, ih]; simp; omega

theorem pebRow_take (l : List Move) (k : Nat) (h : k < l.length) : pebRow (l.take (k + 1)) = pebRow (l.take k) ++ [pebMove l[k], pebMove l[k]] := by
  unfold pebRow
  rw [List.take_succ_eq_append_getElem h, List.flatMap_append]
  simp

theorem cnt_pebblerOf (t : Turner) : pebM.cnt (pebblerOf t).1 ≤ 4611686018427387000 := by
  unfold pebblerOf
  split
  · rename_i h
    split
    · decide
    · have k := turnOk h
      have h1 := sum_map_le pmovesM.cnt 30 (t.moves.map pebRow) (fun x hx => by
        obtain ⟨y, hy, rfl⟩ := List.mem_map.1 hx
        have := k.len hy; have := k.l3
        show 3 * (pebRow y).length ≤ 30
        rw [pebRow_len]; omega)
      rw [List.length_map] at h1
      have := k.n12
      show cntL pmovesM (t.moves.map pebRow) ≤ _
      have : cntL pmovesM (t.moves.map pebRow) ≤ t.moves.length * 30 := h1
      omega
  · decide

theorem ow_Pebbler_zero (w : World) : pebE.ow w [.int .i64 0, .int .i64 0, .slice none 0 0] default [] :=
  ow_Pebbler (r := default) ⟨by decide, by decide⟩ ⟨by decide, by decide⟩ (ow_nil _ _ _)

theorem peb_done {w0 w : World} {ps : List Ob} {v2 : Value} {x : Pebbler} {c : Int} (S : Star w0 w (oE intE [.int .i64 x.letters] x.letters :: oE intE [.int .i64 x.start] x.start :: oE pmovessE [v2] x.moves :: ps)) :
    MakesC pebE (x, c) w0 (.returned (.tuple #[.agg #[.int .i64 x.letters, .int .i64 x.start, v2], .int .i64 c])) w := by
  have S1 := S.sel [1, 2, 0] (by decide) (by simp)
  have S1 : Star w0 w [oE intE [.int .i64 x.start] x.start, oE pmovessE [v2] x.moves, oE intE [.int .i64 x.letters] x.letters] := S1
  have S2 := S1.pair.sel [1, 0]
  have S2 : Star w0 w [oE intE [.int .i64 x.letters] x.letters, oE (pairE intE pmovessE) [.int .i64 x.start, v2] (x.start, x.moves)] := S2
  exact (S2.pair.via (F := fun r : Pebbler => (r.letters, r.start, r.moves)) x rfl).done (x := (x, c))

theorem src_cells {w : World} {b c m size : Nat} {news : List Value} (hl : news.length = m * size) (hc : ∀ j u, news[j]? = some u → w.cell? ⟨b, j, none⟩ = some u) (h1 : ∀ u, u ∈ news → u.oneCell' = true) : SrcS w size (.slice (some ⟨b, 0, none⟩) m c) m news :=
  .inr ⟨⟨b, 0, none⟩, c, rfl, hl, fun j u hu => by rw [Addr.add_lit]; simpa using hc j u hu, h1⟩

theorem one_ints (l : List Int) : ∀ u, u ∈ l.map (Value.int .i64) → u.oneCell' = true := by
  intro u hu
  obtain ⟨x, _, rfl⟩ := List.mem_map.1 hu
  rfl

theorem ow_pmove {x y z : Int} (h : -9223372036854775808 ≤ x ∧ x ≤ 9223372036854775807) (k : -9223372036854775808 ≤ y ∧ y ≤ 9223372036854775807) (m : -9223372036854775808 ≤ z ∧ z ≤ 9223372036854775807) (w : World) : pmoveE.ow w [Value.int .i64 x, Value.int .i64 y, Value.int .i64 z] ⟨x, y, z⟩ [] :=
  ⟨[_], [_, _], [], [], rfl, rfl, ⟨⟨rfl, h⟩, rfl⟩, ⟨[_], [_], [], [], rfl, rfl, ⟨⟨rfl, k⟩, rfl⟩, ⟨⟨rfl, m⟩, rfl⟩⟩⟩

theorem all2 {α : Type} {E : Enc α} {w : World} {x y : α} {cx cy : List Value} (h : E.ow w cx x []) (k : E.ow w cy y []) : OwAll E w [x, y] [cx, cy] [[], []] := .cons h (.cons k .nil)

theorem below_cell_alloc (w : World) (o : Obj) {a : Addr} (h : a.block < w.heap.size) : (w.alloc o).cell? a = w.cell? a := ((Below.refl w.heap.size w).alloc (Nat.le_refl _) o).cell h

theorem cell_al {w : World} {a : Addr} {v : Value} (h : w.cell? a = some v) (o : Obj) : (w.alloc o).cell? a = some v := by rw [below_cell_alloc w o (World.block_lt_of_cell? w _ h)]; exact h

theorem cell_as {w : World} {a : Addr} {v : Value} (h : w.cell? a = some v) (o : Obj) (v0 v1 v2 : Value) : ((((w.alloc o).setCell ⟨w.heap.size, 0, none⟩ v0).setCell ⟨w.heap.size, 1, none⟩ v1).setCell ⟨w.heap.size, 2, none⟩ v2).cell? a = some v :=
  by
  have B : Below w.heap.size w ((((w.alloc o).setCell ⟨w.heap.size, 0, none⟩ v0).setCell ⟨w.heap.size, 1, none⟩ v1).setCell ⟨w.heap.size, 2, none⟩ v2) := by
    refine Below.setCell (Below.setCell (Below.setCell ((Below.refl _ _).alloc (Nat.le_refl _) o) ?_ _) ?_ _) ?_ _ <;> exact Nat.le_refl _
  exact (B.cell (World.block_lt_of_cell? w _ h)).trans h

set_option maxHeartbeats 4000000 in
theorem pebblerOf_is (x : Pebbler × Int) (cs : List Value) (r : Turner) (B : Nat) (w : World) (hB0 : B ≤ w.heap.size) (h : turnE.rd w B cs r) (hx : pebblerOf r = x) :
    Calls Try.prog 16 #[.agg cs.toArray] w (MakesC pebE x w) := by
  have HX := Lib.hid hx
  have RA := Lib.hid h
  obtain ⟨v2, rfl, b1, b2, h2⟩ := rd_Turner h
  obtain ⟨pa, pc, rfl, q1, q2, -, e4⟩ := rd_slice1 rfl h2
  obtain ⟨pn, hpn⟩ : ∃ n, n = r.moves.length := ⟨_, rfl⟩
  rw [← hpn] at q1 e4 RA ⊢
  have HN := Lib.hid hpn
  have E4 := Lib.hid e4
  clear hx h h2 hpn e4
  have S := ((Star.nil w).alloc (cs := #[.int .i64 r.letters, .int .i64 r.start, .slice pa pn pc]) (ty := 42)).alloc (cs := #[.int .i64 0, .int .i64 0, .slice none 0 0]) (ty := 29)
  rw [World.size_alloc] at S
  go_enter Try.func16, Try.ntmps16
  go_wp2_with fail
  generalize hW : (w.alloc _).alloc _ = w0 at S ⊢
  clear hW
  replace S : Star w w0 [oB (w.heap.size + 1) [.int .i64 0, .int .i64 0, .slice none 0 0] 29, oB w.heap.size [.int .i64 r.letters, .int .i64 r.start, .slice pa pn pc] 42] := S
  refine (validTurn_any _ r B _ (Nat.le_trans hB0 S.below.size) (turnE.rd_of (S.below.mono hB0) RA.out)).mono ?_
  rintro e w1 ⟨rfl, b⟩
  replace S := S.step b
  clear b
  cases h1 : validTurn r
  case false =>
    have R0 := S.blk 0 rfl
    have c0 := R0.cell 0 rfl
    have c1 := R0.cell 1 rfl
    have c2 := R0.cell 2 rfl
    have f0 := R0.free
    go_wp2
    generalize hW : ((w1.setCell _ _).setCell _ _).setCell _ _ = w3
    replace S := S.set3 rfl hW
    have A3 := S.blk 0 rfl
    have q0 := A3.cell 0 rfl
    have q1 := A3.cell 1 rfl
    have q2 := A3.cell 2 rfl
    obtain rfl : x = (default, 1) := by rw [← HX.out]; unfold pebblerOf; rw [h1]; rfl
    exact bodyPost_ret (v := .tuple #[.agg #[.int .i64 0, .int .i64 0, .slice none 0 0], .int .i64 1]) (by simp [results, Try.results16, go_sem, q0, q1, q2]) rfl
      (S.flat (ow_Pebbler_zero _)).done
  have K := turnOk h1
  have A0 := S.blk 1 rfl
  have d0 := A0.cell 0 rfl
  have d1 := A0.cell 1 rfl
  have d2 := A0.cell 2 rfl
  have la := A0.lt
  clear A0
  by_cases h8 : 8 < pn
  case pos =>
    have h8' : (8 : Int) < (pn : Int) := by omega
    have H1 := Lib.hid h1; clear h1 K
    have R0 := S.blk 0 rfl
    have c0 := R0.cell 0 rfl
    have c1 := R0.cell 1 rfl
    have c2 := R0.cell 2 rfl
    have f0 := R0.free
    go_wp2
    generalize hW : ((w1.setCell _ _).setCell _ _).setCell _ _ = w3
    replace S := S.set3 rfl hW
    have A3 := S.blk 0 rfl
    have q0 := A3.cell 0 rfl
    have q1 := A3.cell 1 rfl
    have q2 := A3.cell 2 rfl
    obtain rfl : x = (default, 3) := by rw [← HX.out]; unfold pebblerOf; rw [H1.out, if_pos rfl, if_pos (by rw [← HN.out]; exact h8)]
    exact bodyPost_ret (v := .tuple #[.agg #[.int .i64 0, .int .i64 0, .slice none 0 0], .int .i64 3]) (by simp [results, Try.results16, go_sem, q0, q1, q2]) rfl
      (S.flat (ow_Pebbler_zero _)).done
  have HX : Hid (x = (⟨r.letters, r.start, r.moves.map pebRow⟩, 0)) := Lib.hid (by rw [← HX.out]; unfold pebblerOf; rw [h1, if_pos rfl, if_neg (by rw [← HN.out]; exact h8)])
  have KH := Lib.hid K; clear K h1
  have hpn8 : pn ≤ 8 := by omega
  clear h8
  replace S := ((S.alloc (cs := #[.int .i64 r.letters, .int .i64 r.start, .slice none 0 0]) (ty := 29)).nils pmovesE 49).sel [1, 2, 3, 0]
  have da := fun o => (show (w1.alloc o).cell? ⟨w.heap.size, 2, none⟩ = some (.slice pa pn pc) from by rw [below_cell_alloc w1 o (by simpa using la)]; exact d2)
  go_wp2
  generalize hW : w1.alloc _ = wa at S ⊢
  clear hW d0 d1 d2 da la
  go_loopw [30] (fun s wr => ∃ k : Nat, ∃ vm, k ≤ pn ∧ s = .int .i64 k ∧ Star w wr [oB w1.heap.size [.int .i64 r.letters, .int .i64 r.start, vm] 29, oB (w.heap.size + 1) [.int .i64 0, .int .i64 0, .slice none 0 0] 29, oB w.heap.size [.int .i64 r.letters, .int .i64 r.start, .slice pa pn pc] 42, oE pmovessE [vm] ((r.moves.take k).map pebRow)]) (fun s _ => pn - (intOf s).toNat)
  case atStart => exact ⟨0, _, by omega, rfl, S⟩
  case round =>
    clear S
    obtain ⟨k, vm, hk, rfl, S⟩ := hrel
    obtain ⟨ma, mn, mc, rfl⟩ := S.slc 3 rfl
    have d2 := (S.blk 2 rfl).cell 2 rfl
    by_cases hlt : k < pn
    case neg =>
      obtain rfl : k = pn := by omega
      have ht : r.moves.take k = r.moves := List.take_of_length_le (by rw [HN.out]; exact Nat.le_refl _)
      rw [ht] at S
      have X0 := S.blk 0 rfl
      have c0 := X0.cell 0 rfl
      have c1 := X0.cell 1 rfl
      have c2 := X0.cell 2 rfl
      have R0 := S.blk 1 rfl
      have f0 := R0.cell 0 rfl
      have f1 := R0.cell 1 rfl
      have f2 := R0.cell 2 rfl
      have ff := R0.free
      clear ht
      go_wp2
      generalize hW : ((wr.setCell _ _).setCell _ _).setCell _ _ = w5
      have S5 := (S.sel [1, 3]).set3 rfl hW
      have A3 := S5.blk 0 rfl
      have q0 := A3.cell 0 rfl
      have q1 := A3.cell 1 rfl
      have q2 := A3.cell 2 rfl
      have S6 := ((S5.int b2).int b1).sel [0, 1, 3]
      obtain rfl := HX.out
      exact bodyPost_ret (v := .tuple #[.agg #[.int .i64 r.letters, .int .i64 r.start, .slice ma mn mc], .int .i64 0]) (by simp [results, Try.results16, go_sem, q0, q1, q2]) rfl (peb_done (x := ⟨r.letters, r.start, r.moves.map pebRow⟩) S6)
    obtain ⟨bb, oo, vk, rfl, -, hc, hr⟩ := E4.out k hlt
    have hkl : k < r.moves.length := by rw [← HN.out]; exact hlt
    have hget : r.moves[k]?.getD default = r.moves[k] := by simp [List.getElem?_eq_getElem hkl]
    rw [hget] at hr
    have hlen := KH.out.len (List.getElem_mem hkl)
    have hl3 := KH.out.l3
    have htk : (r.moves.take (k + 1)).map pebRow = (r.moves.take k).map pebRow ++ [pebRow r.moves[k]] := by rw [List.take_succ_eq_append_getElem hkl, List.map_append]; rfl
    obtain ⟨row, hrow⟩ : ∃ x, x = r.moves[k] := ⟨_, rfl⟩
    rw [← hrow] at hr hlen htk
    obtain ⟨ra, rc, rfl, r1, r2, -, e5⟩ := rd_movesE hr
    obtain ⟨m, hm⟩ : ∃ m, m = row.length := ⟨_, rfl⟩
    rw [← hm] at r1 e5 hlen hc
    have hm5 : m ≤ 5 := by omega
    have HM := Lib.hid hm
    have HT := Lib.hid htk
    have HC := Lib.hid hc
    have E5 := Lib.hid e5
    clear hc hr hget hlen htk hrow hm e5
    have g1 := (S.below.cell (World.block_lt_of_cell? w _ HC.out)).trans HC.out
    have hll : ((r.moves.take k).map pebRow).length ≤ 1000000000000 := by rw [List.length_map]; exact Nat.le_trans (List.length_take_le _ _) (by omega)
    replace S := (S.alloc (cs := #[]) (ty := 51)).lit0 (α := PMove) (E := pmoveE)
    go_wp2
    generalize hW : wr.alloc _ = wb at S ⊢
    clear hW g1 d2
    go_loopw [7, 37] (fun vs s wr => ∃ c : Nat, ∃ vr, c ≤ m ∧ vs = vr ∧ s = .int .i64 c ∧ Star w wr [oE pmovesE [vr] (pebRow (row.take c)), oB w1.heap.size [.int .i64 r.letters, .int .i64 r.start, .slice ma mn mc] 29, oB (w.heap.size + 1) [.int .i64 0, .int .i64 0, .slice none 0 0] 29, oB w.heap.size [.int .i64 r.letters, .int .i64 r.start, .slice (some ⟨bb, oo, none⟩) pn pc] 42, oE pmovessE [.slice ma mn mc] ((r.moves.take k).map pebRow)]) (fun _ s _ => m - (intOf s).toNat)
    case atStart => exact ⟨0, _, by omega, rfl, rfl, S⟩
    case round =>
      clear S
      obtain ⟨c, vr, hcc, rfl, rfl, S⟩ := hrel
      obtain ⟨va, vn, vc, rfl⟩ := S.slc 0 rfl
      have d2 := (S.blk 3 rfl).cell 2 rfl
      have g1 := (S.below.cell (World.block_lt_of_cell? w _ HC.out)).trans HC.out
      by_cases hcm : c < m
      case neg =>
        obtain rfl : c = m := by omega
        have ht : row.take c = row := List.take_of_length_le (by rw [HM.out]; exact Nat.le_refl _)
        rw [ht] at S
        clear ht
        have c2 := (S.blk 1 rfl).cell 2 rfl
        have SC := (S.alloc (cs := #[.slice va vn vc]) (ty := 49)).sel [5, 1, 2, 3, 4]
        go_wp2_with (at_builtin; refine st1_PMoveSS SC rfl rfl rfl rfl cell_a1 (one_mem rfl) hll ?_; intro ta tn tc w9 S9; have c2 := (S9.blk 1 rfl).cell 2 rfl; have cf := (S9.blk 1 rfl).free)
        have SB := (S9.sel [1, 2, 3, 0]).set 2 (.slice ta tn tc)
        go_roundw
        case rel => exact ⟨k + 1, _, by omega, by go_num, by rw [HT.out]; exact SB⟩
        case measure => simp [intOf]; omega
      obtain ⟨s, t, rfl, -, ⟨hp0, hp1⟩, hbd⟩ := E5.out c hcm
      have hcl : c < row.length := by rw [← HM.out]; exact hcm
      have hget : row[c]?.getD default = row[c] := by simp [List.getElem?_eq_getElem hcl]
      rw [hget] at hp0 hp1 hbd
      have htk := pebRow_take row c hcl
      obtain ⟨mv, hmv⟩ : ∃ x, x = row[c] := ⟨_, rfl⟩
      rw [← hmv] at hp0 hp1 hbd htk
      obtain ⟨hb1, hb2⟩ := hbd
      have g2 := (S.below.cell (World.block_lt_of_cell? w _ hp0)).trans hp0
      have g3 := (S.below.cell (World.block_lt_of_cell? w _ hp1)).trans hp1
      have HT2 := Lib.hid htk
      clear hget hp0 hp1 htk hmv
      have hlr : (pebRow (row.take c)).length + [pebMove mv, pebMove mv].length ≤ 1000000000000 := by rw [pebRow_len]; have := List.length_take_le c row; have := HM.out; simp; omega
      have SA := (((S.alloc (cs := #[.int .i64 mv.to, .int .i64 mv.dir]) (ty := 67)).alloc (cs := #[.int .i64 mv.to, .int .i64 mv.dir, .int .i64 0]) (ty := 51)).alloc (cs := #[.int .i64 mv.to, .int .i64 mv.dir, .int .i64 0, .int .i64 mv.to, .int .i64 mv.dir, .int .i64 0]) (ty := 51)).sel [3, 4, 5, 6, 7]
      go_wp2_with (at_builtin; refine stS_PMoveS (ys := [pebMove mv, pebMove mv]) SA rfl rfl rfl (all2 (ow_pmove hb1 hb2 bd0 _) (ow_pmove hb1 hb2 bd0 _)) rfl (src_cells rfl cell_a3 (one_ints [mv.to, mv.dir, 0, mv.to, mv.dir, 0])) hlr ?_; intro ta tn tc w9 S9)
      go_roundw
      case rel => exact ⟨c + 1, _, by omega, rfl, by go_num, by rw [HT2.out]; exact S9⟩
      case measure => simp [intOf]; omega

set_option maxHeartbeats 4000000 in
theorem specPebblerOf_is (x : Pebbler × Int) (cs : List Value) (r : Turner) (B : Nat) (w : World) (hB0 : B ≤ w.heap.size) (h : turnE.rd w B cs r) (hx : pebblerOf r = x) :
    Calls Try.prog 14 #[.agg cs.toArray] w (MakesC pebE x w) := by
  have HX := Lib.hid hx
  have RA := Lib.hid h
  obtain ⟨v2, rfl, b1, b2, h2⟩ := rd_Turner h
  obtain ⟨pa, pc, rfl, q1, q2, -, e4⟩ := rd_slice1 rfl h2
  obtain ⟨pn, hpn⟩ : ∃ n, n = r.moves.length := ⟨_, rfl⟩
  rw [← hpn] at q1 e4 RA ⊢
  have HN := Lib.hid hpn
  have E4 := Lib.hid e4
  clear hx h h2 hpn e4
  have S := ((Star.nil w).alloc (cs := #[.int .i64 r.letters, .int .i64 r.start, .slice pa pn pc]) (ty := 42)).alloc (cs := #[.int .i64 0, .int .i64 0, .slice none 0 0]) (ty := 29)
  rw [World.size_alloc] at S
  go_enter Try.func14, Try.ntmps14
  go_wp2_with fail
  generalize hW : (w.alloc _).alloc _ = w0 at S ⊢
  clear hW
  replace S : Star w w0 [oB (w.heap.size + 1) [.int .i64 0, .int .i64 0, .slice none 0 0] 29, oB w.heap.size [.int .i64 r.letters, .int .i64 r.start, .slice pa pn pc] 42] := S
  refine (specValidTurn_any _ r B _ (Nat.le_trans hB0 S.below.size) (turnE.rd_of (S.below.mono hB0) RA.out)).mono ?_
  rintro e w1 ⟨rfl, b⟩
  replace S := S.step b
  clear b
  cases h1 : validTurn r
  case false =>
    have R0 := S.blk 0 rfl
    have c0 := R0.cell 0 rfl
    have c1 := R0.cell 1 rfl
    have c2 := R0.cell 2 rfl
    have f0 := R0.free
    go_wp2
    generalize hW : ((w1.setCell _ _).setCell _ _).setCell _ _ = w3
    replace S := S.set3 rfl hW
    have A3 := S.blk 0 rfl
    have q0 := A3.cell 0 rfl
    have q1 := A3.cell 1 rfl
    have q2 := A3.cell 2 rfl
    obtain rfl : x = (default, 1) := by rw [← HX.out]; unfold pebblerOf; rw [h1]; rfl
    exact bodyPost_ret (v := .tuple #[.agg #[.int .i64 0, .int .i64 0, .slice none 0 0], .int .i64 1]) (by simp [results, Try.results14, go_sem, q0, q1, q2]) rfl
      (S.flat (ow_Pebbler_zero _)).done
  have K := turnOk h1
  have A0 := S.blk 1 rfl
  have d0 := A0.cell 0 rfl
  have d1 := A0.cell 1 rfl
  have d2 := A0.cell 2 rfl
  have la := A0.lt
  clear A0
  by_cases h8 : 8 < pn
  case pos =>
    have h8' : (8 : Int) < (pn : Int) := by omega
    have H1 := Lib.hid h1; clear h1 K
    have R0 := S.blk 0 rfl
    have c0 := R0.cell 0 rfl
    have c1 := R0.cell 1 rfl
    have c2 := R0.cell 2 rfl
    have f0 := R0.free
    go_wp2
    generalize hW : ((w1.setCell _ _).setCell _ _).setCell _ _ = w3
    replace S := S.set3 rfl hW
    have A3 := S.blk 0 rfl
    have q0 := A3.cell 0 rfl
    have q1 := A3.cell 1 rfl
    have q2 := A3.cell 2 rfl
    obtain rfl : x = (default, 3) := by rw [← HX.out]; unfold pebblerOf; rw [H1.out, if_pos rfl, if_pos (by rw [← HN.out]; exact h8)]
    exact bodyPost_ret (v := .tuple #[.agg #[.int .i64 0, .int .i64 0, .slice none 0 0], .int .i64 3]) (by simp [results, Try.results14, go_sem, q0, q1, q2]) rfl
      (S.flat (ow_Pebbler_zero _)).done
  have HX : Hid (x = (⟨r.letters, r.start, r.moves.map pebRow⟩, 0)) := Lib.hid (by rw [← HX.out]; unfold pebblerOf; rw [h1, if_pos rfl, if_neg (by rw [← HN.out]; exact h8)])
  have KH := Lib.hid K; clear K h1
  have hpn8 : pn ≤ 8 := by omega
  clear h8
  replace S := ((S.alloc (cs := #[.int .i64 r.letters, .int .i64 r.start, .slice none 0 0]) (ty := 29)).nils pmovesE 49).sel [1, 2, 3, 0]
  have da := fun o => (show (w1.alloc o).cell? ⟨w.heap.size, 2, none⟩ = some (.slice pa pn pc) from by rw [below_cell_alloc w1 o (by simpa using la)]; exact d2)
  go_wp2
  generalize hW : w1.alloc _ = wa at S ⊢
  clear hW d0 d1 d2 da la
  go_loopw [5] (fun s wr => ∃ k : Nat, ∃ vm, k ≤ pn ∧ s = .int .i64 k ∧ Star w wr [oB w1.heap.size [.int .i64 r.letters, .int .i64 r.start, vm] 29, oB (w.heap.size + 1) [.int .i64 0, .int .i64 0, .slice none 0 0] 29, oB w.heap.size [.int .i64 r.letters, .int .i64 r.start, .slice pa pn pc] 42, oE pmovessE [vm] ((r.moves.take k).map pebRow)]) (fun s _ => pn - (intOf s).toNat)
  case atStart => exact ⟨0, _, by omega, rfl, S⟩
  case round =>
    clear S
    obtain ⟨k, vm, hk, rfl, S⟩ := hrel
    obtain ⟨ma, mn, mc, rfl⟩ := S.slc 3 rfl
    have d2 := (S.blk 2 rfl).cell 2 rfl
    by_cases hlt : k < pn
    case neg =>
      obtain rfl : k = pn := by omega
      have ht : r.moves.take k = r.moves := List.take_of_length_le (by rw [HN.out]; exact Nat.le_refl _)
      rw [ht] at S
      have X0 := S.blk 0 rfl
      have c0 := X0.cell 0 rfl
      have c1 := X0.cell 1 rfl
      have c2 := X0.cell 2 rfl
      have R0 := S.blk 1 rfl
      have f0 := R0.cell 0 rfl
      have f1 := R0.cell 1 rfl
      have f2 := R0.cell 2 rfl
      have ff := R0.free
      clear ht
      go_wp2
      generalize hW : ((wr.setCell _ _).setCell _ _).setCell _ _ = w5
      have S5 := (S.sel [1, 3]).set3 rfl hW
      have A3 := S5.blk 0 rfl
      have q0 := A3.cell 0 rfl
      have q1 := A3.cell 1 rfl
      have q2 := A3.cell 2 rfl
      have S6 := ((S5.int b2).int b1).sel [0, 1, 3]
      obtain rfl := HX.out
      exact bodyPost_ret (v := .tuple #[.agg #[.int .i64 r.letters, .int .i64 r.start, .slice ma mn mc], .int .i64 0]) (by simp [results, Try.results14, go_sem, q0, q1, q2]) rfl (peb_done (x := ⟨r.letters, r.start, r.moves.map pebRow⟩) S6)
    obtain ⟨bb, oo, vk, rfl, -, hc, hr⟩ := E4.out k hlt
    have hkl : k < r.moves.length := by rw [← HN.out]; exact hlt
    have hget : r.moves[k]?.getD default = r.moves[k] := by simp [List.getElem?_eq_getElem hkl]
    rw [hget] at hr
    have hlen := KH.out.len (List.getElem_mem hkl)
    have hl3 := KH.out.l3
    have htk : (r.moves.take (k + 1)).map pebRow = (r.moves.take k).map pebRow ++ [pebRow r.moves[k]] := by rw [List.take_succ_eq_append_getElem hkl, List.map_append]; rfl
    obtain ⟨row, hrow⟩ : ∃ x, x = r.moves[k] := ⟨_, rfl⟩
    rw [← hrow] at hr hlen htk
    obtain ⟨ra, rc, rfl, r1, r2, -, e5⟩ := rd_movesE hr
    obtain ⟨m, hm⟩ : ∃ m, m = row.length := ⟨_, rfl⟩
    rw [← hm] at r1 e5 hlen hc
    have hm5 : m ≤ 5 := by omega
    have HM := Lib.hid hm
    have HT := Lib.hid htk
    have HC := Lib.hid hc
    have E5 := Lib.hid e5
    clear hc hr hget hlen htk hrow hm e5
    have g1 := (S.below.cell (World.block_lt_of_cell? w _ HC.out)).trans HC.out
    have hll : ((r.moves.take k).map pebRow).length ≤ 1000000000000 := by rw [List.length_map]; exact Nat.le_trans (List.length_take_le _ _) (by omega)
    replace S := (S.alloc (cs := #[]) (ty := 51)).lit0 (α := PMove) (E := pmoveE)
    go_wp2
    generalize hW : wr.alloc _ = wb at S ⊢
    clear hW g1 d2
    go_loopw [6, 7] (fun vs s wr => ∃ c : Nat, ∃ vr, c ≤ m ∧ vs = vr ∧ s = .int .i64 c ∧ Star w wr [oE pmovesE [vr] (pebRow (row.take c)), oB w1.heap.size [.int .i64 r.letters, .int .i64 r.start, .slice ma mn mc] 29, oB (w.heap.size + 1) [.int .i64 0, .int .i64 0, .slice none 0 0] 29, oB w.heap.size [.int .i64 r.letters, .int .i64 r.start, .slice (some ⟨bb, oo, none⟩) pn pc] 42, oE pmovessE [.slice ma mn mc] ((r.moves.take k).map pebRow)]) (fun _ s _ => m - (intOf s).toNat)
    case atStart => exact ⟨0, _, by omega, rfl, rfl, S⟩
    case round =>
      clear S
      obtain ⟨c, vr, hcc, rfl, rfl, S⟩ := hrel
      obtain ⟨va, vn, vc, rfl⟩ := S.slc 0 rfl
      have d2 := (S.blk 3 rfl).cell 2 rfl
      have g1 := (S.below.cell (World.block_lt_of_cell? w _ HC.out)).trans HC.out
      by_cases hcm : c < m
      case neg =>
        obtain rfl : c = m := by omega
        have ht : row.take c = row := List.take_of_length_le (by rw [HM.out]; exact Nat.le_refl _)
        rw [ht] at S
        clear ht
        have c2 := (S.blk 1 rfl).cell 2 rfl
        have SC := (S.alloc (cs := #[.slice va vn vc]) (ty := 49)).sel [5, 1, 2, 3, 4]
        go_wp2_with (at_builtin; refine st1_PMoveSS SC rfl rfl rfl rfl cell_a1 (one_mem rfl) hll ?_; intro ta tn tc w9 S9; have c2 := (S9.blk 1 rfl).cell 2 rfl; have cf := (S9.blk 1 rfl).free)
        have SB := (S9.sel [1, 2, 3, 0]).set 2 (.slice ta tn tc)
        go_roundw
        case rel => exact ⟨k + 1, _, by omega, by go_num, by rw [HT.out]; exact SB⟩
        case measure => simp [intOf]; omega
      obtain ⟨s, t, rfl, -, ⟨hp0, hp1⟩, hbd⟩ := E5.out c hcm
      have hcl : c < row.length := by rw [← HM.out]; exact hcm
      have hget : row[c]?.getD default = row[c] := by simp [List.getElem?_eq_getElem hcl]
      rw [hget] at hp0 hp1 hbd
      have htk := pebRow_take row c hcl
      obtain ⟨mv, hmv⟩ : ∃ x, x = row[c] := ⟨_, rfl⟩
      rw [← hmv] at hp0 hp1 hbd htk
      obtain ⟨hb1, hb2⟩ := hbd
      have g2 := (S.below.cell (World.block_lt_of_cell? w _ hp0)).trans hp0
      have g3 := (S.below.cell (World.block_lt_of_cell? w _ hp1)).trans hp1
      have HT2 := Lib.hid htk
      clear hget hp0 hp1 htk hmv
      have hlr : (pebRow (row.take c)).length + [pebMove mv, pebMove mv].length ≤ 1000000000000 := by rw [pebRow_len]; have := List.length_take_le c row; have := HM.out; simp; omega
      go_upto_region 13 with fail
      go_cut [8] (fun s8 wx => ∃ g : Nat, s8 = .pointer (some ⟨g, 0, none⟩) ∧ Star w wx [oB g [.int .i64 mv.to, .int .i64 mv.dir, .int .i64 0] 51, oE pmovesE [.slice va vn vc] (pebRow (row.take c)), oB w1.heap.size [.int .i64 r.letters, .int .i64 r.start, .slice ma mn mc] 29, oB (w.heap.size + 1) [.int .i64 0, .int .i64 0, .slice none 0 0] 29, oB w.heap.size [.int .i64 r.letters, .int .i64 r.start, .slice (some ⟨bb, oo, none⟩) pn pc] 42, oE pmovessE [.slice ma mn mc] ((r.moves.take k).map pebRow)])
      case first =>
        have HS := Lib.hid S
        clear S
        have k0 := fun o => (⟨cell_al d2 o, cell_al g1 o, cell_al g2 o, cell_al g3 o⟩ : _ ∧ _ ∧ _ ∧ _)
        have k1 := fun o v0 v1 v2 => (⟨cell_as d2 o v0 v1 v2, cell_as g1 o v0 v1 v2, cell_as g2 o v0 v1 v2, cell_as g3 o v0 v1 v2⟩ : _ ∧ _ ∧ _ ∧ _)
        go_region_held3 (fun w' => w'.cell? ⟨w.heap.size, 2, none⟩ = some (.slice (some ⟨bb, oo, none⟩) pn pc) ∧ w'.cell? ⟨bb, oo + k, none⟩ = some (.slice (some ⟨s, t, none⟩) m rc) ∧ w'.cell? ⟨s, t + c * 2, none⟩ = some (.int .i64 mv.to) ∧ w'.cell? ⟨s, t + c * 2 + 1, none⟩ = some (.int .i64 mv.dir))
          (first
            | (with_reducible exact ⟨d2, g1, g2, g3⟩)
            | (with_reducible exact k0 _)
            | (with_reducible exact k1 _ _ _ _)
            | go_keep)
          (fail)
        all_goals
          go_wp2_with fail
          go_meet
          exact ⟨_, rfl, (HS.out.alloc (cs := #[.int .i64 mv.to, .int .i64 mv.dir, .int .i64 0]) (ty := 51)).step (Below.refl _ _).drew⟩
      case rest =>
        clear S d2 g1 g2 g3
        obtain ⟨g, rfl, S⟩ := hcut
        have G0 := S.blk 0 rfl
        have c0 := G0.cell 0 rfl
        have c1 := G0.cell 1 rfl
        have c2 := G0.cell 2 rfl
        have SA := (S.alloc (cs := #[.int .i64 mv.to, .int .i64 mv.dir, .int .i64 0, .int .i64 mv.to, .int .i64 mv.dir, .int .i64 0]) (ty := 51)).sel [2, 3, 4, 5, 6]
        go_wp2_with (at_builtin; refine stS_PMoveS (ys := [pebMove mv, pebMove mv]) SA rfl rfl rfl (all2 (ow_pmove hb1 hb2 bd0 _) (ow_pmove hb1 hb2 bd0 _)) rfl (src_cells rfl cell_a1 (one_ints [mv.to, mv.dir, 0, mv.to, mv.dir, 0])) hlr ?_; intro ta tn tc w9 S9)
        go_roundw
        case rel => exact ⟨c + 1, _, by omega, rfl, by go_num, by rw [HT2.out]; exact S9⟩
        case measure => simp [intOf]; omega

end Go.Proofs.Ytgegpehcddajjaa
