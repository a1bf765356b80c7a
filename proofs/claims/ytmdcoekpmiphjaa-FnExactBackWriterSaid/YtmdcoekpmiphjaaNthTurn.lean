/-
  NthLastTurner: what the program and the reference answer (written by a program of this claim's own, gen_nthturn.py).
-/
import Derived.Test.YtmdcoekpmiphjaaNth
import Derived.Test.YtmdcoekpmiphjaaRepeat
import Derived.Test.YtmdcoekpmiphjaaTurnOut
import Derived.Test.YtmdcoekpmiphjaaMTurner
import Derived.Deep.DeepCutAuto
namespace Go.Proofs.Ytmdcoekpmiphjaa
open Go.RowKit

def nthMove (l m s a : Nat) : Move :=
  if s = 0 then (if a = l + 1 then ⟨1, -1⟩ else ⟨0, 1⟩) else if s < m then (if a < l then ⟨(s : Int) + 1, -1⟩ else ⟨-2, 0⟩) else (if a = 0 then ⟨-1, 0⟩ else ⟨-2, 0⟩)
def nthTRow (l m s : Nat) : List Move := (List.range (l + 2)).map (nthMove l m s)
def nthTurn (l m : Nat) : List (List Move) := (List.range (m + 1)).map (nthTRow l m)

def nthLastTurner (letters n : Int) : Turner × Int := if nthOk letters n then (⟨letters, 0, nthTurn letters.toNat n.toNat⟩, 0) else (default, 2)

theorem cnt_nthLastTurner (letters n : Int) : turnM.cnt (nthLastTurner letters n).1 ≤ 4611686018427387000 := by
  unfold nthLastTurner
  split
  · rename_i h
    unfold nthOk at h
    rw [Bool.and_eq_true] at h
    have h1 := within_true.1 h.1
    have h2 := within_true.1 h.2
    have := sum_map_le movesM.cnt 10 (nthTurn letters.toNat n.toNat) (fun x hx => by
      obtain ⟨a, _, rfl⟩ := List.mem_map.1 hx
      show 2 * (nthTRow letters.toNat n.toNat a).length ≤ 10
      unfold nthTRow
      simp
      omega)
    have hlen : (nthTurn letters.toNat n.toNat).length = n.toNat + 1 := by simp [nthTurn]
    rw [hlen] at this
    show cntL movesM (nthTurn letters.toNat n.toNat) ≤ _
    have e : cntL movesM (nthTurn letters.toNat n.toNat) ≤ (n.toNat + 1) * 10 := this
    omega
  · decide

theorem set_move {w0 w : World} {ps : List Ob} {q : Nat} {ty : TypeId} {l : List Move} (S : Star w0 w (oB q (l.flatMap cMove) ty :: ps)) (k : Nat) (hk : k < l.length) (x : Move) :
    Star w0 ((w.setCell ⟨q, k * 2, none⟩ (.int .i64 x.to)).setCell ⟨q, k * 2 + 1, none⟩ (.int .i64 x.dir)) (oB q ((l.set k x).flatMap cMove) ty :: ps) := by
  have S1 := (S.set (k * 2) (.int .i64 x.to)).set (k * 2 + 1) (.int .i64 x.dir)
  have hg : l[k]?.getD default = l[k] := by simp [List.getElem?_eq_getElem hk]
  have e1 := flatMap_set default cMove 2 (fun _ => rfl) l k 0 (.int .i64 x.to) ⟨x.to, (l[k]?.getD default).dir⟩ hk (by omega) rfl
  have e2 := flatMap_set default cMove 2 (fun _ => rfl) (l.set k ⟨x.to, (l[k]?.getD default).dir⟩) k 1 (.int .i64 x.dir) x (by simpa using hk) (by omega) (by simp [List.getElem?_set, hk, cMove])
  rw [Nat.add_zero] at e1
  rw [e1, e2, List.set_set] at S1
  exact S1

theorem move_cells {w : World} {q : Nat} {ty : TypeId} {l : List Move} (A : Blk w q (l.flatMap cMove) ty) (k : Nat) (hk : k < l.length) : w.cell? ⟨q, k * 2, none⟩ = some (.int .i64 (l[k]?.getD default).to) ∧ w.cell? ⟨q, k * 2 + 1, none⟩ = some (.int .i64 (l[k]?.getD default).dir) := by
  have e0 := flatMap_get default cMove 2 (fun _ => rfl) l k 0 hk (by omega)
  have e1 := flatMap_get default cMove 2 (fun _ => rfl) l k 1 hk (by omega)
  exact ⟨A.cell _ e0, A.cell _ e1⟩

theorem range_set {α : Type} (f : Nat → α) (n k : Nat) (x : α) : ((List.range n).map f).set k x = (List.range n).map (fun a => if a = k then x else f a) := by
  apply List.ext_getElem (by simp)
  intro i h1 h2
  simp [List.getElem_set]
  by_cases h : k = i
  · subst h; simp
  · rw [if_neg h, if_neg (fun e => h e.symm)]

theorem rep_range {α : Type} (n : Nat) (x : α) : List.replicate n x = (List.range n).map fun _ => x := by
  apply List.ext_getElem (by simp)
  intro i h1 h2
  simp

theorem range_congr {α : Type} (f g : Nat → α) (n : Nat) (h : ∀ a, a < n → f a = g a) : (List.range n).map f = (List.range n).map g :=
  List.map_congr_left fun a ha => h a (List.mem_range.1 ha)

theorem nthT_in (l m s : Nat) (hl : l ≤ 3) (hs : s ≤ 8) (w : World) : ∀ x, x ∈ nthTRow l m s → moveE.ow w (cMove x) x [] := by
  intro x hx
  obtain ⟨a, _, rfl⟩ := List.mem_map.1 hx
  refine ow_moveE ?_
  unfold nthMove bdMove
  split <;> split <;> (try split) <;> exact ⟨⟨by simp; try omega, by simp; try omega⟩, by simp, by simp⟩

set_option maxHeartbeats 4000000 in
theorem nthLastTurner_is (x : Turner × Int) (letters n : Int) (w : World) (hl : -9223372036854775808 ≤ letters ∧ letters ≤ 9223372036854775807) (hn : -9223372036854775808 ≤ n ∧ n ≤ 9223372036854775807) (hx : nthLastTurner letters n = x) :
    Calls Try.prog 7 #[.int .i64 letters, .int .i64 n] w (MakesC turnE x w) := by
  have HX := Lib.hid hx
  clear hx
  go_enter Try.func7, Try.ntmps7
  go_wp2_with fail
  have S := (Star.nil w).alloc (cs := #[.int .i64 0, .int .i64 0, .slice none 0 0]) (ty := 24)
  generalize hW : w.alloc _ = w0 at S ⊢
  clear hW
  refine (isNth_any _ _ _).mono ?_
  rintro e w1 ⟨rfl, b⟩
  replace S := S.step b
  clear b
  have A0 := S.blk 0 rfl
  cases h1 : nthOk letters n
  case false =>
    have c0 := A0.cell 0 rfl
    have c1 := A0.cell 1 rfl
    have c2 := A0.cell 2 rfl
    have f0 := A0.free
    go_wp2
    generalize hW : ((w1.setCell _ _).setCell _ _).setCell _ _ = w3
    replace S := S.set3 rfl hW
    have A3 := S.blk 0 rfl
    have q0 := A3.cell 0 rfl
    have q1 := A3.cell 1 rfl
    have q2 := A3.cell 2 rfl
    obtain rfl : x = (default, 2) := by rw [← HX.out]; unfold nthLastTurner; rw [h1]; rfl
    exact bodyPost_ret (v := .tuple #[.agg #[.int .i64 0, .int .i64 0, .slice none 0 0], .int .i64 2]) (by simp [results, Try.results7, go_sem, q0, q1, q2]) rfl
      (S.flat (ow_Turner_zero _)).done
  have hb := h1
  unfold nthOk at hb
  rw [Bool.and_eq_true] at hb
  have hb1 := within_true.1 hb.1
  have hb2 := within_true.1 hb.2
  obtain ⟨L, rfl⟩ : ∃ L : Nat, letters = L := ⟨letters.toNat, by omega⟩
  obtain ⟨m, rfl⟩ : ∃ m : Nat, n = m := ⟨n.toNat, by omega⟩
  have HX : Hid (x = (⟨L, 0, nthTurn L m⟩, 0)) := Lib.hid (by rw [← HX.out]; unfold nthLastTurner; rw [h1]; rfl)
  clear h1 hb A0
  have hL : L ≤ 3 := by omega
  have hm : m ≤ 8 := by omega
  have hL1 : 1 ≤ L := by omega
  have hm1 : 1 ≤ m := by omega
  clear hb1 hb2 hl hn
  replace S := S.alloc (cs := #[.int .i64 L, .int .i64 0, .slice none 0 0]) (ty := 24)
  go_wp2
  generalize hW : w1.alloc _ = w3 at S ⊢
  clear hW
  replace S : Star w w3 [oB w1.heap.size [.int .i64 L, .int .i64 0, .slice none 0 0] 24, oB w.heap.size [.int .i64 0, .int .i64 0, .slice none 0 0] 24, oE movessE [.slice none 0 0] ((nthTurn L m).take 0)] := by
    have := (S.nils movesE 51).sel [1, 2, 0]
    unfold nthTurn
    simpa using this
  go_loopw [20] (fun s wr => ∃ k : Nat, ∃ vm, k ≤ m + 1 ∧ s = .int .i64 k ∧ Star w wr [oB w1.heap.size [.int .i64 L, .int .i64 0, vm] 24, oB w.heap.size [.int .i64 0, .int .i64 0, .slice none 0 0] 24, oE movessE [vm] ((nthTurn L m).take k)]) (fun s _ => m + 1 - (intOf s).toNat)
  case atStart => exact ⟨0, _, by omega, rfl, S⟩
  case round =>
    clear S
    obtain ⟨k, vm, hk, rfl, S⟩ := hrel
    obtain ⟨ma, mn, mc, rfl⟩ := S.slc 2 rfl
    by_cases hlt : k < m + 1
    case neg =>
      obtain rfl : k = m + 1 := by omega
      have X0 := S.blk 0 rfl
      have c0 := X0.cell 0 rfl
      have c1 := X0.cell 1 rfl
      have c2 := X0.cell 2 rfl
      have A0 := S.blk 1 rfl
      have d0 := A0.cell 0 rfl
      have d1 := A0.cell 1 rfl
      have d2 := A0.cell 2 rfl
      have df := A0.free
      go_wp2
      generalize hW : ((wr.setCell _ _).setCell _ _).setCell _ _ = w5
      have S5 := (S.sel [1, 2]).set3 rfl hW
      have A3 := S5.blk 0 rfl
      have q0 := A3.cell 0 rfl
      have q1 := A3.cell 1 rfl
      have q2 := A3.cell 2 rfl
      have ht : (nthTurn L m).take (m + 1) = nthTurn L m := take_range_all _ _
      have S6 : Star w w5 [oE intE [.int .i64 L] (L : Int), oE intE [.int .i64 0] (0 : Int), oE movessE [.slice ma mn mc] (nthTurn L m)] := by
        have := ((S5.int (x := (0 : Int)) bd0).int (x := (L : Int)) ⟨by omega, by omega⟩).sel [0, 1, 3]
        rw [ht] at this
        exact this
      obtain rfl := HX.out
      exact bodyPost_ret (v := .tuple #[.agg #[.int .i64 L, .int .i64 0, .slice ma mn mc], .int .i64 0]) (by simp [results, Try.results7, go_sem, q0, q1, q2]) rfl (turn_done (x := ⟨L, 0, nthTurn L m⟩) S6)
    have hll : ((nthTurn L m).take k).length ≤ 1000000000000 := Nat.le_trans (List.length_take_le _ _) (by omega)
    have hT := take_range_map (nthTRow L m) (m + 1) k hlt
    have HT := Lib.hid hT; clear hT
    have SA := (S.alloc (cs := #[.int .i64 (-2), .int .i64 0]) (ty := 50))
    have wL : IntKind.i64.wrap ((L : Int) + 2) = (L : Int) + 2 := IntWalk.i64_in _ ⟨by omega, by omega⟩
    have wL1 : IntKind.i64.wrap ((L : Int) + 1) = (L : Int) + 1 := IntWalk.i64_in _ ⟨by omega, by omega⟩
    have hr0 := (SA.blk 0 rfl).cell 0 rfl
    have hr1 := (SA.blk 0 rfl).cell 1 rfl
    have HR := Lib.hid (repeat_moves ⟨-2, 0⟩ wr.heap.size 1 (L + 2) (by omega) _ hr0 hr1)
    clear hr0 hr1
    go_wp2_with fail
    have hcast : ((L : Int) + 2) = ((L + 2 : Nat) : Int) := by omega
    rw [hcast]
    refine HR.out.mono ?_
    rintro e wb ⟨q, rfl, hq, lo, b⟩
    replace S := ((SA.sel [1, 2, 3]).blocked hq lo b)
    clear SA HR hq lo b
    replace S : Star w wb [oB q (((List.range (L + 2)).map fun _ => (⟨-2, 0⟩ : Move)).flatMap cMove) 50, oB w1.heap.size [.int .i64 L, .int .i64 0, .slice ma mn mc] 24, oB w.heap.size [.int .i64 0, .int .i64 0, .slice none 0 0] 24, oE movessE [.slice ma mn mc] ((nthTurn L m).take k)] := by
      have := S
      rw [rep_range] at this
      exact this
    clear hcast
    clear hll
    have hll : ((nthTurn L m).take k).length ≤ 1000000000000 := Nat.le_trans (List.length_take_le _ _) (by omega)
    have hlq : ((List.range (L + 2)).map fun _ => (⟨-2, 0⟩ : Move)).length = L + 2 := by simp
    by_cases hk0 : k = 0
    case pos =>
      have t1 : ((k : Int) == 0) = true := by simp; omega
      have K0 := Lib.hid hk0; clear hk0
      go_wp2_with fail
      go_loopw [44] (fun s wr => ∃ c : Nat, c ≤ (L + 1) ∧ s = .int .i64 c ∧ Star w wr [oB q (((List.range (L + 2)).map fun a => if a < c then (⟨0, 1⟩ : Move) else ⟨-2, 0⟩).flatMap cMove) 50, oB w1.heap.size [.int .i64 L, .int .i64 0, .slice ma mn mc] 24, oB w.heap.size [.int .i64 0, .int .i64 0, .slice none 0 0] 24, oE movessE [.slice ma mn mc] ((nthTurn L m).take k)]) (fun s _ => (L + 1) - (intOf s).toNat)
      case atStart => exact ⟨0, by omega, rfl, by simpa using S⟩
      case round =>
        clear S
        obtain ⟨c, hc, rfl, S⟩ := hrel
        have hlc : ((List.range (L + 2)).map fun a => if a < c then (⟨0, 1⟩ : Move) else ⟨-2, 0⟩).length = L + 2 := by simp
        have cf := (S.blk 0 rfl).free
        by_cases hcl : c < (L + 1)
        case neg =>
          obtain rfl : c = (L + 1) := by omega
          obtain ⟨u0, c0⟩ : ∃ u, wr.cell? ⟨q, (L + 1) * 2, none⟩ = some u := ⟨_, (move_cells (S.blk 0 rfl) (L + 1) (by rw [hlc]; omega)).1⟩
          obtain ⟨u1, c1⟩ : ∃ u, wr.cell? ⟨q, (L + 1) * 2 + 1, none⟩ = some u := ⟨_, (move_cells (S.blk 0 rfl) (L + 1) (by rw [hlc]; omega)).2⟩
          go_upto_region 23 with fail
          generalize hW : (wr.setCell _ _).setCell _ _ = wz
          have SB := set_move S (L + 1) (by rw [hlc]; omega) ⟨1, -1⟩
          rw [range_set] at SB
          replace SB : Star w wz [oB q ((nthTRow L m k).flatMap cMove) 50, oB w1.heap.size [.int .i64 L, .int .i64 0, .slice ma mn mc] 24, oB w.heap.size [.int .i64 0, .int .i64 0, .slice none 0 0] 24, oE movessE [.slice ma mn mc] ((nthTurn L m).take k)] := by
            have e : nthTRow L m k = (List.range (L + 2)).map fun a => if a = L + 1 then (⟨1, -1⟩ : Move) else if a < L + 1 then ⟨0, 1⟩ else ⟨-2, 0⟩ := range_congr _ _ _ fun a ha => by
              unfold nthMove
              rw [if_pos K0.out]
              by_cases h : a = L + 1
              · rw [if_pos h, if_pos h]
              · rw [if_neg h, if_neg h, if_pos (by omega)]
            rw [e, ← hW]
            exact SB
          clear hW c0 c1 cf S
          have c2 := (SB.blk 1 rfl).cell 2 rfl
          have SC := ((SB.lits (nthTRow L m k) cMove (L + 2) (by unfold nthTRow; simp) rfl (nthT_in L m k (by omega) (by omega) _) (by simp [maxLen]; omega)).alloc (cs := #[.slice (some ⟨q, 0, none⟩) ((L + 2 : Nat)) ((L + 2 : Nat))]) (ty := 51)).sel [4, 1, 2, 3]
          go_wp2_with (at_builtin; refine st1_MoveSS SC rfl rfl rfl rfl cell_a1 (one_mem rfl) hll ?_; intro ta tn tc w9 S9; have c2 := (S9.blk 1 rfl).cell 2 rfl; have cf := (S9.blk 1 rfl).free)
          have SD := (S9.sel [1, 2, 0]).set 2 (.slice ta tn tc)
          go_roundw
          case rel => exact ⟨k + 1, _, by omega, by go_num, by unfold nthTurn at SD ⊢; rw [HT.out]; exact SD⟩
          case measure => simp [intOf]; omega
        obtain ⟨u0, c0⟩ : ∃ u, wr.cell? ⟨q, c * 2, none⟩ = some u := ⟨_, (move_cells (S.blk 0 rfl) c (by rw [hlc]; omega)).1⟩
        obtain ⟨u1, c1⟩ : ∃ u, wr.cell? ⟨q, c * 2 + 1, none⟩ = some u := ⟨_, (move_cells (S.blk 0 rfl) c (by rw [hlc]; omega)).2⟩
        go_wp2
        have SB := set_move S c (by rw [hlc]; omega) ⟨0, 1⟩
        rw [range_set, range_congr _ (fun a => if a < c + 1 then (⟨0, 1⟩ : Move) else ⟨-2, 0⟩) _ (fun a ha => by by_cases h : a = c <;> by_cases h2 : a < c <;> simp [h, h2] <;> omega)] at SB
        go_roundw
        case rel => exact ⟨c + 1, by omega, by go_num, SB⟩
        case measure => simp [intOf]; omega
    have t1 : ((k : Int) == 0) = false := by simp; omega
    by_cases hkm : k = m
    case pos =>
      have t2 : ((k : Int) == (m : Int)) = true := by simp; omega
      have K0 := Lib.hid hk0; have KM := Lib.hid hkm; clear hk0 hkm
      obtain ⟨u0, c0⟩ : ∃ u, wb.cell? ⟨q, 0, none⟩ = some u := ⟨_, by simpa using (move_cells (S.blk 0 rfl) 0 (by rw [hlq]; omega)).1⟩
      obtain ⟨u1, c1⟩ : ∃ u, wb.cell? ⟨q, 1, none⟩ = some u := ⟨_, by simpa using (move_cells (S.blk 0 rfl) 0 (by rw [hlq]; omega)).2⟩
      have cf := (S.blk 0 rfl).free
      go_upto_region 23 with fail
      generalize hW : (wb.setCell _ _).setCell _ _ = wz
      have SB := set_move S 0 (by rw [hlq]; omega) ⟨-1, 0⟩
      rw [range_set] at SB
      replace SB : Star w wz [oB q ((nthTRow L m k).flatMap cMove) 50, oB w1.heap.size [.int .i64 L, .int .i64 0, .slice ma mn mc] 24, oB w.heap.size [.int .i64 0, .int .i64 0, .slice none 0 0] 24, oE movessE [.slice ma mn mc] ((nthTurn L m).take k)] := by
        have e : nthTRow L m k = (List.range (L + 2)).map fun a => if a = 0 then (⟨-1, 0⟩ : Move) else ⟨-2, 0⟩ := range_congr _ _ _ fun a ha => by
          unfold nthMove
          rw [if_neg K0.out, if_neg (by have := KM.out; omega)]
        rw [e, ← hW]
        exact SB
      clear hW c0 c1 cf S
      have c2 := (SB.blk 1 rfl).cell 2 rfl
      have SC := ((SB.lits (nthTRow L m k) cMove (L + 2) (by unfold nthTRow; simp) rfl (nthT_in L m k (by omega) (by omega) _) (by simp [maxLen]; omega)).alloc (cs := #[.slice (some ⟨q, 0, none⟩) ((L + 2 : Nat)) ((L + 2 : Nat))]) (ty := 51)).sel [4, 1, 2, 3]
      go_wp2_with (at_builtin; refine st1_MoveSS SC rfl rfl rfl rfl cell_a1 (one_mem rfl) hll ?_; intro ta tn tc w9 S9; have c2 := (S9.blk 1 rfl).cell 2 rfl; have cf := (S9.blk 1 rfl).free)
      have SD := (S9.sel [1, 2, 0]).set 2 (.slice ta tn tc)
      go_roundw
      case rel => exact ⟨k + 1, _, by omega, by go_num, by unfold nthTurn at SD ⊢; rw [HT.out]; exact SD⟩
      case measure => simp [intOf]; omega
    have t2 : ((k : Int) == (m : Int)) = false := by simp; omega
    have wk : IntKind.i64.wrap ((k : Int) + 1) = (k : Int) + 1 := IntWalk.i64_in _ ⟨by omega, by omega⟩
    have K0 := Lib.hid hk0; have KM := Lib.hid hkm; clear hk0 hkm
    go_wp2_with fail
    go_loopw [30] (fun s wr => ∃ c : Nat, c ≤ L ∧ s = .int .i64 c ∧ Star w wr [oB q (((List.range (L + 2)).map fun a => if a < c then (⟨(k : Int) + 1, -1⟩ : Move) else ⟨-2, 0⟩).flatMap cMove) 50, oB w1.heap.size [.int .i64 L, .int .i64 0, .slice ma mn mc] 24, oB w.heap.size [.int .i64 0, .int .i64 0, .slice none 0 0] 24, oE movessE [.slice ma mn mc] ((nthTurn L m).take k)]) (fun s _ => L - (intOf s).toNat)
    case atStart => exact ⟨0, by omega, rfl, by simpa using S⟩
    case round =>
      clear S
      obtain ⟨c, hc, rfl, S⟩ := hrel
      have hlc : ((List.range (L + 2)).map fun a => if a < c then (⟨(k : Int) + 1, -1⟩ : Move) else ⟨-2, 0⟩).length = L + 2 := by simp
      have cf := (S.blk 0 rfl).free
      by_cases hcl : c < L
      case neg =>
        obtain rfl : c = L := by omega
        have SB : Star w wr [oB q ((nthTRow c m k).flatMap cMove) 50, oB w1.heap.size [.int .i64 c, .int .i64 0, .slice ma mn mc] 24, oB w.heap.size [.int .i64 0, .int .i64 0, .slice none 0 0] 24, oE movessE [.slice ma mn mc] ((nthTurn c m).take k)] := by
          have e : nthTRow c m k = (List.range (c + 2)).map fun a => if a < c then (⟨(k : Int) + 1, -1⟩ : Move) else ⟨-2, 0⟩ := range_congr _ _ _ fun a ha => by
            unfold nthMove
            rw [if_neg K0.out, if_pos (by have := KM.out; omega)]
          rw [e]
          exact S
        clear cf S
        have c2 := (SB.blk 1 rfl).cell 2 rfl
        have SC := ((SB.lits (nthTRow c m k) cMove (c + 2) (by unfold nthTRow; simp) rfl (nthT_in c m k (by omega) (by omega) _) (by simp [maxLen]; omega)).alloc (cs := #[.slice (some ⟨q, 0, none⟩) ((c + 2 : Nat)) ((c + 2 : Nat))]) (ty := 51)).sel [4, 1, 2, 3]
        go_wp2_with (at_builtin; refine st1_MoveSS SC rfl rfl rfl rfl cell_a1 (one_mem rfl) hll ?_; intro ta tn tc w9 S9; have c2 := (S9.blk 1 rfl).cell 2 rfl; have cf := (S9.blk 1 rfl).free)
        have SD := (S9.sel [1, 2, 0]).set 2 (.slice ta tn tc)
        go_roundw
        case rel => exact ⟨k + 1, _, by omega, by go_num, by unfold nthTurn at SD ⊢; rw [HT.out]; exact SD⟩
        case measure => simp [intOf]; omega
      obtain ⟨u0, c0⟩ : ∃ u, wr.cell? ⟨q, c * 2, none⟩ = some u := ⟨_, (move_cells (S.blk 0 rfl) c (by rw [hlc]; omega)).1⟩
      obtain ⟨u1, c1⟩ : ∃ u, wr.cell? ⟨q, c * 2 + 1, none⟩ = some u := ⟨_, (move_cells (S.blk 0 rfl) c (by rw [hlc]; omega)).2⟩
      go_wp2
      have SB := set_move S c (by rw [hlc]; omega) ⟨(k : Int) + 1, -1⟩
      rw [range_set, range_congr _ (fun a => if a < c + 1 then (⟨(k : Int) + 1, -1⟩ : Move) else ⟨-2, 0⟩) _ (fun a ha => by by_cases h : a = c <;> by_cases h2 : a < c <;> simp [h, h2] <;> omega)] at SB
      go_roundw
      case rel => exact ⟨c + 1, by omega, by go_num, SB⟩
      case measure => simp [intOf]; omega

set_option maxHeartbeats 4000000 in
theorem specNthLastTurner_is (x : Turner × Int) (letters n : Int) (w : World) (hl : -9223372036854775808 ≤ letters ∧ letters ≤ 9223372036854775807) (hn : -9223372036854775808 ≤ n ∧ n ≤ 9223372036854775807) (hx : nthLastTurner letters n = x) :
    Calls Try.prog 6 #[.int .i64 letters, .int .i64 n] w (MakesC turnE x w) := by
  have HX := Lib.hid hx
  clear hx
  go_enter Try.func6, Try.ntmps6
  go_wp2_with fail
  have S := (Star.nil w).alloc (cs := #[.int .i64 0, .int .i64 0, .slice none 0 0]) (ty := 24)
  generalize hW : w.alloc _ = w0 at S ⊢
  clear hW
  refine (l06Nth_any _ _ _).mono ?_
  rintro e w1 ⟨rfl, b⟩
  replace S := S.step b
  clear b
  have A0 := S.blk 0 rfl
  cases h1 : nthOk letters n
  case false =>
    have c0 := A0.cell 0 rfl
    have c1 := A0.cell 1 rfl
    have c2 := A0.cell 2 rfl
    have f0 := A0.free
    go_wp2
    generalize hW : ((w1.setCell _ _).setCell _ _).setCell _ _ = w3
    replace S := S.set3 rfl hW
    have A3 := S.blk 0 rfl
    have q0 := A3.cell 0 rfl
    have q1 := A3.cell 1 rfl
    have q2 := A3.cell 2 rfl
    obtain rfl : x = (default, 2) := by rw [← HX.out]; unfold nthLastTurner; rw [h1]; rfl
    exact bodyPost_ret (v := .tuple #[.agg #[.int .i64 0, .int .i64 0, .slice none 0 0], .int .i64 2]) (by simp [results, Try.results6, go_sem, q0, q1, q2]) rfl
      (S.flat (ow_Turner_zero _)).done
  have hb := h1
  unfold nthOk at hb
  rw [Bool.and_eq_true] at hb
  have hb1 := within_true.1 hb.1
  have hb2 := within_true.1 hb.2
  obtain ⟨L, rfl⟩ : ∃ L : Nat, letters = L := ⟨letters.toNat, by omega⟩
  obtain ⟨m, rfl⟩ : ∃ m : Nat, n = m := ⟨n.toNat, by omega⟩
  have HX : Hid (x = (⟨L, 0, nthTurn L m⟩, 0)) := Lib.hid (by rw [← HX.out]; unfold nthLastTurner; rw [h1]; rfl)
  clear h1 hb A0
  have hL : L ≤ 3 := by omega
  have hm : m ≤ 8 := by omega
  have hL1 : 1 ≤ L := by omega
  have hm1 : 1 ≤ m := by omega
  clear hb1 hb2 hl hn
  replace S := S.alloc (cs := #[.int .i64 L, .int .i64 0, .slice none 0 0]) (ty := 24)
  replace S := S.alloc (cs := #[.int .i64 (-2), .int .i64 0]) (ty := 50)
  rw [World.size_alloc] at S
  go_wp2
  generalize hW : (w1.alloc _).alloc _ = w3 at S ⊢
  clear hW
  replace S : Star w w3 [oB w1.heap.size [.int .i64 L, .int .i64 0, .slice none 0 0] 24, oB w.heap.size [.int .i64 0, .int .i64 0, .slice none 0 0] 24, oE movessE [.slice none 0 0] ((nthTurn L m).take 0), oB (w1.heap.size + 1) [.int .i64 (-2), .int .i64 0] 50] := by
    have := (S.nils movesE 51).sel [2, 3, 0, 1]
    unfold nthTurn
    simpa using this
  go_loopw [8] (fun s wr => ∃ k : Nat, ∃ vm, k ≤ m + 1 ∧ s = .int .i64 k ∧ Star w wr [oB w1.heap.size [.int .i64 L, .int .i64 0, vm] 24, oB w.heap.size [.int .i64 0, .int .i64 0, .slice none 0 0] 24, oE movessE [vm] ((nthTurn L m).take k), oB (w1.heap.size + 1) [.int .i64 (-2), .int .i64 0] 50]) (fun s _ => m + 1 - (intOf s).toNat)
  case atStart => exact ⟨0, _, by omega, rfl, S⟩
  case round =>
    clear S
    obtain ⟨k, vm, hk, rfl, S⟩ := hrel
    obtain ⟨ma, mn, mc, rfl⟩ := S.slc 2 rfl
    by_cases hlt : k < m + 1
    case neg =>
      obtain rfl : k = m + 1 := by omega
      have X0 := S.blk 0 rfl
      have c0 := X0.cell 0 rfl
      have c1 := X0.cell 1 rfl
      have c2 := X0.cell 2 rfl
      have A0 := S.blk 1 rfl
      have d0 := A0.cell 0 rfl
      have d1 := A0.cell 1 rfl
      have d2 := A0.cell 2 rfl
      have df := A0.free
      go_wp2
      generalize hW : ((wr.setCell _ _).setCell _ _).setCell _ _ = w5
      have S5 := (S.sel [1, 2]).set3 rfl hW
      have A3 := S5.blk 0 rfl
      have q0 := A3.cell 0 rfl
      have q1 := A3.cell 1 rfl
      have q2 := A3.cell 2 rfl
      have ht : (nthTurn L m).take (m + 1) = nthTurn L m := take_range_all _ _
      have S6 : Star w w5 [oE intE [.int .i64 L] (L : Int), oE intE [.int .i64 0] (0 : Int), oE movessE [.slice ma mn mc] (nthTurn L m)] := by
        have := ((S5.int (x := (0 : Int)) bd0).int (x := (L : Int)) ⟨by omega, by omega⟩).sel [0, 1, 3]
        rw [ht] at this
        exact this
      obtain rfl := HX.out
      exact bodyPost_ret (v := .tuple #[.agg #[.int .i64 L, .int .i64 0, .slice ma mn mc], .int .i64 0]) (by simp [results, Try.results6, go_sem, q0, q1, q2]) rfl (turn_done (x := ⟨L, 0, nthTurn L m⟩) S6)
    have hll : ((nthTurn L m).take k).length ≤ 1000000000000 := Nat.le_trans (List.length_take_le _ _) (by omega)
    have hT := take_range_map (nthTRow L m) (m + 1) k hlt
    have HT := Lib.hid hT; clear hT
    replace S := (S.alloc (cs := #[]) (ty := 50)).lit0 (α := Move) (E := moveE)
    go_wp2
    generalize hW : wr.alloc _ = wa at S ⊢
    clear hW
    go_loopw [9, 10] (fun vs s wr => ∃ c : Nat, ∃ vr, c ≤ L ∧ vs = vr ∧ s = .int .i64 c ∧ Star w wr [oE movesE [vr] ((nthTRow L m k).take c), oB w1.heap.size [.int .i64 L, .int .i64 0, .slice ma mn mc] 24, oB w.heap.size [.int .i64 0, .int .i64 0, .slice none 0 0] 24, oE movessE [.slice ma mn mc] ((nthTurn L m).take k), oB (w1.heap.size + 1) [.int .i64 (-2), .int .i64 0] 50]) (fun _ s _ => L - (intOf s).toNat)
    case atStart => exact ⟨0, _, by omega, rfl, rfl, by simpa using S⟩
    case round =>
      clear S
      obtain ⟨c, vr, hc, rfl, rfl, S⟩ := hrel
      obtain ⟨va, vn, vc, rfl⟩ := S.slc 0 rfl
      have n0 := (S.blk 4 rfl).cell 0 rfl
      have n1 := (S.blk 4 rfl).cell 1 rfl
      by_cases hcl : c < L
      case neg =>
        obtain rfl : c = L := by omega
        have h1 := take_range_map (nthMove c m k) (c + 2) c (by omega)
        have h2 := take_range_map (nthMove c m k) (c + 2) (c + 1) (by omega)
        have h3 := take_range_all (nthMove c m k) (c + 2)
        have hend : nthTRow c m k = (nthTRow c m k).take c ++ [nthMove c m k c, nthMove c m k (c + 1)] := by
          unfold nthTRow
          rw [h2, h1, List.append_assoc] at h3
          exact h3.symm
        have hlr : ((nthTRow c m k).take c).length + 2 ≤ 1000000000000 := by have := List.length_take_le c (nthTRow c m k); omega
        have HE := Lib.hid hend; clear h1 h2 h3 hend
        by_cases hk0 : k = 0
        case pos =>
          have t1 : ((k : Int) == 0) = true := by simp; omega
          have hv : [nthMove c m k c, nthMove c m k (c + 1)] = [⟨0, 1⟩, ⟨1, -1⟩] := by subst hk0; unfold nthMove; simp
          have HV := Lib.hid hv; clear hv
          have K0 := Lib.hid hk0; clear hk0
          have SA := (S.alloc (cs := #[.int .i64 0, .int .i64 1, .int .i64 1, .int .i64 (-1)]) (ty := 50)).sel [1, 2, 3, 4, 5]
          go_wp2_with (first
            | (at_builtin
               refine stS_MoveS (ys := [⟨0, 1⟩, ⟨1, -1⟩]) SA rfl rfl rfl (all2 (ow_move ⟨by omega, by omega⟩ ⟨by omega, by omega⟩ _) (ow_move ⟨by omega, by omega⟩ ⟨by omega, by omega⟩ _)) rfl (src_cells rfl cell_a1 (one_ints [0, 1, 1, -1])) hlr ?_
               intro sa sn sc w8 S8
               rw [← HV.out, ← HE.out] at S8
               have c2 := (S8.blk 1 rfl).cell 2 rfl
               have SC := (S8.alloc (cs := #[.slice sa sn sc]) (ty := 51)).sel [4, 1, 2, 3, 5])
            | (at_builtin
               refine st1_MoveSS SC rfl rfl rfl rfl cell_a1 (one_mem rfl) hll ?_
               intro ta tn tc w9 S9
               have c2 := (S9.blk 1 rfl).cell 2 rfl
               have cf := (S9.blk 1 rfl).free))
          have SD := (S9.sel [1, 2, 0, 3]).set 2 (.slice ta tn tc)
          go_roundw
          case rel => exact ⟨k + 1, _, by omega, by go_num, by unfold nthTurn at SD ⊢; rw [HT.out]; exact SD⟩
          case measure => simp [intOf]; omega
        case neg =>
          have t1 : ((k : Int) == 0) = false := by simp; omega
          have hv : [nthMove c m k c, nthMove c m k (c + 1)] = [⟨-2, 0⟩, ⟨-2, 0⟩] := by
            unfold nthMove
            rw [if_neg hk0, if_neg hk0, if_neg (show ¬ c < c from by omega), if_neg (show ¬ c + 1 < c from by omega), if_neg (show ¬ c = 0 from by omega), if_neg (show ¬ c + 1 = 0 from by omega)]
            simp
          have HV := Lib.hid hv; clear hv
          have K0 := Lib.hid hk0; clear hk0
          have SA := (S.alloc (cs := #[.int .i64 (-2), .int .i64 0, .int .i64 (-2), .int .i64 0]) (ty := 50)).sel [1, 2, 3, 4, 5]
          go_wp2_with (first
            | (at_builtin
               refine stS_MoveS (ys := [⟨-2, 0⟩, ⟨-2, 0⟩]) SA rfl rfl rfl (all2 (ow_move ⟨by omega, by omega⟩ ⟨by omega, by omega⟩ _) (ow_move ⟨by omega, by omega⟩ ⟨by omega, by omega⟩ _)) rfl (src_cells rfl cell_a1 (one_ints [-2, 0, -2, 0])) hlr ?_
               intro sa sn sc w8 S8
               rw [← HV.out, ← HE.out] at S8
               have c2 := (S8.blk 1 rfl).cell 2 rfl
               have SC := (S8.alloc (cs := #[.slice sa sn sc]) (ty := 51)).sel [4, 1, 2, 3, 5])
            | (at_builtin
               refine st1_MoveSS SC rfl rfl rfl rfl cell_a1 (one_mem rfl) hll ?_
               intro ta tn tc w9 S9
               have c2 := (S9.blk 1 rfl).cell 2 rfl
               have cf := (S9.blk 1 rfl).free))
          have SD := (S9.sel [1, 2, 0, 3]).set 2 (.slice ta tn tc)
          go_roundw
          case rel => exact ⟨k + 1, _, by omega, by go_num, by unfold nthTurn at SD ⊢; rw [HT.out]; exact SD⟩
          case measure => simp [intOf]; omega
      have hlL : ((nthTRow L m k).take c).length ≤ 1000000000000 := by have := List.length_take_le c (nthTRow L m k); omega
      have hR := take_range_map (nthMove L m k) (L + 2) c (by omega)
      have HR := Lib.hid hR; clear hR
      by_cases hk0 : k = 0
      case pos =>
        have t1 : ((k : Int) == 0) = true := by simp; omega
        have hv : nthMove L m k c = ⟨0, 1⟩ := by subst hk0; unfold nthMove; rw [if_pos rfl, if_neg (by omega)]
        have HV := Lib.hid hv; clear hv
        have K0 := Lib.hid hk0; clear hk0
        have SA := ((S.alloc (cs := #[.int .i64 0, .int .i64 1]) (ty := 50)).move (x := 0) (y := 1) ⟨by omega, by omega⟩ ⟨by omega, by omega⟩).sel [2, 0, 3, 4, 5, 6]
        go_wp2_with (at_builtin; refine st1_MoveS SA rfl rfl rfl rfl cell_a1 (one_mem2 rfl rfl) hlL ?_; intro ta tn tc w9 S9)
        go_roundw
        case rel => exact ⟨c + 1, by omega, by go_num, by unfold nthTRow at S9 ⊢; rw [HR.out, HV.out]; exact S9⟩
        case measure => simp [intOf]; omega
      have t1 : ((k : Int) == 0) = false := by simp; omega
      by_cases hkm : k < m
      case pos =>
        have wk : IntKind.i64.wrap ((k : Int) + 1) = (k : Int) + 1 := IntWalk.i64_in _ ⟨by omega, by omega⟩
        have hv : nthMove L m k c = ⟨(k : Int) + 1, -1⟩ := by unfold nthMove; rw [if_neg hk0, if_pos hkm, if_pos hcl]
        have HV := Lib.hid hv; clear hv
        have K0 := Lib.hid hk0; clear hk0
        have SA := ((S.alloc (cs := #[.int .i64 ((k : Int) + 1), .int .i64 (-1)]) (ty := 50)).move (x := ((k : Int) + 1)) (y := (-1)) ⟨by omega, by omega⟩ ⟨by omega, by omega⟩).sel [2, 0, 3, 4, 5, 6]
        go_wp2_with (at_builtin; refine st1_MoveS SA rfl rfl rfl rfl cell_a1 (one_mem2 rfl rfl) hlL ?_; intro ta tn tc w9 S9)
        go_roundw
        case rel => exact ⟨c + 1, by omega, by go_num, by unfold nthTRow at S9 ⊢; rw [HR.out, HV.out]; exact S9⟩
        case measure => simp [intOf]; omega
      by_cases hc0 : c = 0
      case pos =>
        have t2 : ((c : Int) == 0) = true := by simp; omega
        have hv : nthMove L m k c = ⟨-1, 0⟩ := by unfold nthMove; rw [if_neg hk0, if_neg hkm, if_pos hc0]
        have HV := Lib.hid hv; clear hv
        have K0 := Lib.hid hk0; clear hk0
        have C0 := Lib.hid hc0; clear hc0
        have SA := ((S.alloc (cs := #[.int .i64 (-1), .int .i64 0]) (ty := 50)).move (x := (-1)) (y := 0) ⟨by omega, by omega⟩ ⟨by omega, by omega⟩).sel [2, 0, 3, 4, 5, 6]
        go_wp2_with (at_builtin; refine st1_MoveS SA rfl rfl rfl rfl cell_a1 (one_mem2 rfl rfl) hlL ?_; intro ta tn tc w9 S9)
        go_roundw
        case rel => exact ⟨c + 1, by omega, by go_num, by unfold nthTRow at S9 ⊢; rw [HR.out, HV.out]; exact S9⟩
        case measure => simp [intOf]; omega
      have t2 : ((c : Int) == 0) = false := by simp; omega
      have hv : nthMove L m k c = ⟨-2, 0⟩ := by unfold nthMove; rw [if_neg hk0, if_neg hkm, if_neg hc0]
      have HV := Lib.hid hv; clear hv
      have K0 := Lib.hid hk0; clear hk0
      have C0 := Lib.hid hc0; clear hc0
      have SA := ((S.alloc (cs := #[.int .i64 (-2), .int .i64 0]) (ty := 50)).move (x := (-2)) (y := 0) ⟨by omega, by omega⟩ ⟨by omega, by omega⟩).sel [2, 0, 3, 4, 5, 6]
      go_wp2_with (at_builtin; refine st1_MoveS SA rfl rfl rfl rfl cell_a1 (one_mem2 rfl rfl) hlL ?_; intro ta tn tc w9 S9)
      go_roundw
      case rel => exact ⟨c + 1, by omega, by go_num, by unfold nthTRow at S9 ⊢; rw [HR.out, HV.out]; exact S9⟩
      case measure => simp [intOf]; omega

end Go.Proofs.Ytmdcoekpmiphjaa
