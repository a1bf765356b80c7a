/-
  NotRotator: what the program and the reference answer (written by a program of this claim's own, gen_notrot.py).
-/
import Derived.Test.YtaaiabfhnfjlpaaSpecRot
import Derived.Test.YtaaiabfhnfjlpaaRotRows
import Derived.Test.YtaaiabfhnfjlpaaMRotator
import Derived.Deep.DeepCutAuto
namespace Go.Proofs.Ytaaiabfhnfjlpaa
open Go.RowKit

/-- What is known of a rotator that is one. -/
structure RotOk (r : Rot) : Prop where
  l1 : 1 ≤ r.letters
  l3 : r.letters ≤ 3
  n1 : 1 ≤ r.next.length
  n6 : r.next.length ≤ 6
  s0 : 0 ≤ r.start
  sn : r.start ≤ r.next.length - 1
  fl : r.fin.length = r.next.length
  row : ∀ x, x ∈ r.next → (x.length : Int) = r.letters ∧ ∀ y, y ∈ x → 0 ≤ y ∧ y ≤ r.next.length - 1
  fin : ∀ e, e ∈ r.fin → -2 ≤ e ∧ e ≤ r.next.length - 1

theorem rotOk {r : Rot} (h : validRot r = true) : RotOk r := by
  unfold validRot at h
  simp only [Bool.and_eq_true] at h
  obtain ⟨h1, h2, h3, h4, h5, h6⟩ := h
  have k1 := within_true.1 h1
  have k2 := within_true.1 h2
  have k3 := within_true.1 h3
  have k4 := of_decide_eq_true h4
  rw [List.all_eq_true] at h5 h6
  refine ⟨k1.1, k1.2, by omega, by omega, k3.1, by omega, by omega, fun x hx => ?_, fun e he => ?_⟩
  · have := h6 x hx
    unfold areStates at this
    rw [Bool.and_eq_true, List.all_eq_true] at this
    exact ⟨of_decide_eq_true this.1, fun y hy => within_true.1 (this.2 y hy)⟩
  · exact within_true.1 (h5 e he)

def notEnd (e : Int) : Int := if e < 0 then -3 - e else e

def notRotator (r : Rot) : Rot × Int := if validRot r then (⟨r.letters, r.start, r.next, r.fin.map notEnd⟩, 0) else (default, 1)

theorem plusAll_zero (l : List (List Int)) : plusAll l 0 = l := by
  unfold plusAll
  simp

theorem cntL_rows_le (l : List (List Int)) (c : Nat) (h : ∀ x, x ∈ l → x.length ≤ c) : cntL intsM l ≤ l.length * c := sum_map_le intsM.cnt c l h

theorem cnt_notRotator (r : Rot) : rotsM.cnt (notRotator r).1 ≤ 4611686018427387000 := by
  unfold notRotator
  split
  · rename_i h
    have k := rotOk h
    have h1 := cntL_rows_le r.next 3 (fun x hx => by have := (k.row x hx).1; have := k.l3; omega)
    have := k.n6; have := k.fl
    show cntL intsM r.next + (r.fin.map notEnd).length ≤ _
    rw [List.length_map]
    omega
  · decide

theorem ow_Rot_zero (w : World) : rotsE.ow w [.int .i64 0, .int .i64 0, .slice none 0 0, .slice none 0 0] default [] :=
  ow_Rot (r := default) ⟨by decide, by decide⟩ ⟨by decide, by decide⟩ (ow_nil _ _ _) (ow_nil _ _ _)

theorem rot_done {w0 w : World} {ps : List Ob} {v2 v3 : Value} {x : Rot} {c : Int} (S : Star w0 w (oE intE [.int .i64 x.letters] x.letters :: oE intE [.int .i64 x.start] x.start :: oE intssE [v2] x.next :: oE intsE [v3] x.fin :: ps)) :
    MakesC rotsE (x, c) w0 (.returned (.tuple #[.agg #[.int .i64 x.letters, .int .i64 x.start, v2, v3], .int .i64 c])) w := by
  have S1 := S.sel [2, 3, 0, 1] (by decide) (by simp)
  have S1 : Star w0 w [oE intssE [v2] x.next, oE intsE [v3] x.fin, oE intE [.int .i64 x.letters] x.letters, oE intE [.int .i64 x.start] x.start] := S1
  have S2 := S1.pair.sel [2, 0, 1]
  have S2 : Star w0 w [oE intE [.int .i64 x.start] x.start, oE (pairE intssE intsE) [v2, v3] (x.next, x.fin), oE intE [.int .i64 x.letters] x.letters] := S2
  have S3 := S2.pair.sel [1, 0]
  have S3 : Star w0 w [oE intE [.int .i64 x.letters] x.letters, oE (pairE intE (pairE intssE intsE)) [.int .i64 x.start, v2, v3] (x.start, x.next, x.fin)] := S3
  exact (S3.pair.via (F := fun r : Rot => (r.letters, r.start, r.next, r.fin)) x rfl).done (x := (x, c))

set_option maxHeartbeats 4000000 in
theorem notRotator_is (x : Rot × Int) (cs : List Value) (r : Rot) (B : Nat) (w : World) (hB0 : B ≤ w.heap.size) (h : rotsE.rd w B cs r) (hx : notRotator r = x) :
    Calls Try.prog 12 #[.agg cs.toArray] w (MakesC rotsE x w) := by
  have HX := Lib.hid hx
  have RA := Lib.hid h
  obtain ⟨v2, v3, rfl, b1, b2, h2, h3⟩ := rd_Rot h
  obtain ⟨pa, pn, pc, rfl⟩ := rd_slice h2
  obtain ⟨qa, qc, rfl, q1, q2, -, e3⟩ := rd_ints h3
  obtain ⟨qn, hqn⟩ : ∃ n, n = r.fin.length := ⟨_, rfl⟩
  rw [← hqn] at q1 e3 RA ⊢
  have HN := Lib.hid hqn
  have R2 := Lib.hid h2
  have E3 := Lib.hid e3
  clear hx h h2 h3 hqn e3
  have S := ((Star.nil w).alloc (cs := #[.int .i64 r.letters, .int .i64 r.start, .slice pa pn pc, .slice qa qn qc]) (ty := 28)).alloc (cs := #[.int .i64 0, .int .i64 0, .slice none 0 0, .slice none 0 0]) (ty := 28)
  rw [World.size_alloc] at S
  go_enter Try.func12, Try.ntmps12
  go_wp2_with fail
  generalize hW : (w.alloc _).alloc _ = w0 at S ⊢
  clear hW
  replace S : Star w w0 [oB (w.heap.size + 1) [.int .i64 0, .int .i64 0, .slice none 0 0, .slice none 0 0] 28, oB w.heap.size [.int .i64 r.letters, .int .i64 r.start, .slice pa pn pc, .slice qa qn qc] 28] := S
  refine (validRotator_any _ r B _ (Nat.le_trans hB0 S.below.size) (rotsE.rd_of (S.below.mono hB0) RA.out)).mono ?_
  rintro e w1 ⟨rfl, b⟩
  replace S := S.step b
  clear b
  have A0 := S.blk 0 rfl
  cases h1 : validRot r
  case false =>
    have c0 := A0.cell 0 rfl
    have c1 := A0.cell 1 rfl
    have c2 := A0.cell 2 rfl
    have c3 := A0.cell 3 rfl
    have f0 := A0.free
    go_wp2
    generalize hW : (((w1.setCell _ _).setCell _ _).setCell _ _).setCell _ _ = w3
    replace S := S.set4 rfl hW
    have A3 := S.blk 0 rfl
    have q0 := A3.cell 0 rfl
    have q1 := A3.cell 1 rfl
    have q2 := A3.cell 2 rfl
    have q3 := A3.cell 3 rfl
    obtain rfl : x = (default, 1) := by rw [← HX.out]; unfold notRotator; rw [h1]; rfl
    exact bodyPost_ret (v := .tuple #[.agg #[.int .i64 0, .int .i64 0, .slice none 0 0, .slice none 0 0], .int .i64 1]) (by simp [results, Try.results12, go_sem, q0, q1, q2, q3]) rfl
      (S.flat (ow_Rot_zero _)).done
  have K := rotOk h1
  have HX : Hid (x = (⟨r.letters, r.start, r.next, r.fin.map notEnd⟩, 0)) := Lib.hid (by rw [← HX.out]; unfold notRotator; rw [h1]; rfl)
  clear h1 A0
  have KH := Lib.hid K; clear K
  have A0 := S.blk 1 rfl
  have HA := Lib.hid A0
  have d0 := A0.cell 0 rfl
  have d1 := A0.cell 1 rfl
  have d2 := A0.cell 2 rfl
  have d3 := A0.cell 3 rfl
  have la := A0.lt
  clear A0
  have HS := Lib.hid S; clear S
  go_upto_region 3 with fail
  go_cut [4] (fun s4 wx => ∃ g : Nat, ∃ ca cn cc, s4 = .pointer (some ⟨g, 0, none⟩) ∧ Star w wx [oB g [.int .i64 r.letters, .int .i64 r.start, .slice ca cn cc, .slice none 0 0] 28, oE intssE [.slice ca cn cc] r.next, oB (w.heap.size + 1) [.int .i64 0, .int .i64 0, .slice none 0 0, .slice none 0 0] 28, oB w.heap.size [.int .i64 r.letters, .int .i64 r.start, .slice pa pn pc, .slice qa qn qc] 28])
  case first =>
    have hne : w.heap.size ≠ w1.heap.size := by omega
    have da0 := fun o => (HA.out.alloc o).cell 0 rfl
    have da1 := fun o => (HA.out.alloc o).cell 1 rfl
    have da2 := fun o => (HA.out.alloc o).cell 2 rfl
    go_region_held3 (fun w' => w'.cell? ⟨w.heap.size, 0, none⟩ = some (.int .i64 r.letters) ∧ w'.cell? ⟨w.heap.size, 1, none⟩ = some (.int .i64 r.start) ∧ w'.cell? ⟨w.heap.size, 2, none⟩ = some (.slice pa pn pc))
      (first
        | (with_reducible exact ⟨d0, d1, d2⟩)
        | (with_reducible exact ⟨da0 _, da1 _, da2 _⟩)
        | (with_reducible exact ⟨e0, e1, e2⟩)
        | (with_reducible exact ⟨ea0 _, ea1 _, ea2 _⟩)
        | (with_reducible exact ⟨es0 _ _ _ _, es1 _ _ _ _, es2 _ _ _ _⟩)
        | go_keep)
      (first
        | (go_at_call 30
           with_reducible show Calls _ _ _ (World.drew (World.alloc _ _)) _
           refine (ownLists_ints _ r.next B _ (by exact Nat.le_trans hB0 (HS.out.below.alloc HS.out.below.size _).size) (by exact intssE.rd_of ((HS.out.below.alloc HS.out.below.size _).drew.mono hB0) R2.out) (by have := KH.out.n6; omega) (fun x hx => by have := (KH.out.row x hx).1; have := KH.out.l3; omega)).mono ?_
           rintro e w2 ⟨vc, fc, rfl, oc, nc, lo, b9⟩
           skip
           have N2 : Blk w2 w1.heap.size [.int .i64 0, .int .i64 0, .slice none 0 0, .slice none 0 0] 28 := (Blk.new w1 #[.int .i64 0, .int .i64 0, .slice none 0 0, .slice none 0 0] 28).of ((Below.refl _ _).drew.trans b9) (by simp)
           have c9 : Below w1.heap.size w1 w2 := ((Below.refl _ w1).alloc (Nat.le_refl _) _).drew.trans (b9.mono (by simp))
           have n0 := N2.cell 0 rfl
           have n1 := N2.cell 1 rfl
           have n2 := N2.cell 2 rfl
           have n3 := N2.cell 3 rfl
           have nf := N2.free
           have A1 := HA.out.of c9 la
           have e0 := A1.cell 0 rfl
           have e1 := A1.cell 1 rfl
           have e2 := A1.cell 2 rfl
           have ea0 := fun o => (A1.alloc o).cell 0 rfl
           have ea1 := fun o => (A1.alloc o).cell 1 rfl
           have ea2 := fun o => (A1.alloc o).cell 2 rfl
           have es0 := fun v0 v1 v2 v3 => ((((A1.other (a := ⟨w1.heap.size, 0, none⟩) hne v0).other (a := ⟨w1.heap.size, 1, none⟩) hne v1).other (a := ⟨w1.heap.size, 2, none⟩) hne v2).other (a := ⟨w1.heap.size, 3, none⟩) hne v3).cell 0 rfl
           have es1 := fun v0 v1 v2 v3 => ((((A1.other (a := ⟨w1.heap.size, 0, none⟩) hne v0).other (a := ⟨w1.heap.size, 1, none⟩) hne v1).other (a := ⟨w1.heap.size, 2, none⟩) hne v2).other (a := ⟨w1.heap.size, 3, none⟩) hne v3).cell 1 rfl
           have es2 := fun v0 v1 v2 v3 => ((((A1.other (a := ⟨w1.heap.size, 0, none⟩) hne v0).other (a := ⟨w1.heap.size, 1, none⟩) hne v1).other (a := ⟨w1.heap.size, 2, none⟩) hne v2).other (a := ⟨w1.heap.size, 3, none⟩) hne v3).cell 2 rfl
           clear A1
           obtain ⟨ca, cn, cc, rfl⟩ := ow_slice oc)
        | (go_at_call 30
           refine (ownLists_ints _ r.next B _ (by exact Nat.le_trans hB0 HS.out.below.size) (by exact intssE.rd_of (HS.out.below.drew.mono hB0) R2.out) (by have := KH.out.n6; omega) (fun x hx => by have := (KH.out.row x hx).1; have := KH.out.l3; omega)).mono ?_
           rintro e w2 ⟨vc, fc, rfl, oc, nc, lo, b9⟩
           skip
           have c9 : Below w1.heap.size w1 w2 := (Below.refl _ w1).drew.trans b9
           have A1 := HA.out.of c9 la
           have e0 := A1.cell 0 rfl
           have e1 := A1.cell 1 rfl
           have e2 := A1.cell 2 rfl
           have ea0 := fun o => (A1.alloc o).cell 0 rfl
           have ea1 := fun o => (A1.alloc o).cell 1 rfl
           have ea2 := fun o => (A1.alloc o).cell 2 rfl
           have es0 := fun v0 v1 v2 v3 => ((((A1.other (a := ⟨w1.heap.size, 0, none⟩) hne v0).other (a := ⟨w1.heap.size, 1, none⟩) hne v1).other (a := ⟨w1.heap.size, 2, none⟩) hne v2).other (a := ⟨w1.heap.size, 3, none⟩) hne v3).cell 0 rfl
           have es1 := fun v0 v1 v2 v3 => ((((A1.other (a := ⟨w1.heap.size, 0, none⟩) hne v0).other (a := ⟨w1.heap.size, 1, none⟩) hne v1).other (a := ⟨w1.heap.size, 2, none⟩) hne v2).other (a := ⟨w1.heap.size, 3, none⟩) hne v3).cell 1 rfl
           have es2 := fun v0 v1 v2 v3 => ((((A1.other (a := ⟨w1.heap.size, 0, none⟩) hne v0).other (a := ⟨w1.heap.size, 1, none⟩) hne v1).other (a := ⟨w1.heap.size, 2, none⟩) hne v2).other (a := ⟨w1.heap.size, 3, none⟩) hne v3).cell 2 rfl
           clear A1
           obtain ⟨ca, cn, cc, rfl⟩ := ow_slice oc))
    all_goals
      go_wp2_with fail
      go_meet
      try clear da0 da1 da2 e0 e1 e2 ea0 ea1 ea2 es0 es1 es2
      first
        | (refine ⟨_, ca, cn, cc, rfl, ?_⟩
           have S1 := (HS.out.made oc nc lo c9).alloc (cs := #[.int .i64 r.letters, .int .i64 r.start, .slice ca cn cc, .slice none 0 0]) (ty := 28)
           exact S1)
        | (refine ⟨w1.heap.size, ca, cn, cc, rfl, ?_⟩
           have S1 := (HS.out.alloc (cs := #[.int .i64 0, .int .i64 0, .slice none 0 0, .slice none 0 0]) (ty := 28)).made oc nc (fun b hb => by have := lo b hb; simpa using this) (by first | exact (Below.refl _ _).drew.trans b9)
           have S2 := (S1.sel [1, 0, 2, 3]).set4 (v0 := .int .i64 r.letters) (v1 := .int .i64 r.start) (v2 := .slice ca cn cc) (v3 := .slice none 0 0) (w' := _) rfl rfl
           exact S2)
  case rest =>
    clear HS HA d0 d1 d2 d3 la
    obtain ⟨g, ca, cn, cc, rfl, S⟩ := hcut
    replace S := (S.nils intE 2).sel [1, 2, 3, 4, 0]
    replace S : Star w wc [oB g [.int .i64 r.letters, .int .i64 r.start, .slice ca cn cc, .slice none 0 0] 28, oE intssE [.slice ca cn cc] r.next, oB (w.heap.size + 1) [.int .i64 0, .int .i64 0, .slice none 0 0, .slice none 0 0] 28, oB w.heap.size [.int .i64 r.letters, .int .i64 r.start, .slice pa pn pc, .slice qa qn qc] 28, oE intsE [.slice none 0 0] ((r.fin.take 0).map notEnd)] := S
    have A0 := S.blk 3 rfl
    have d3 := A0.cell 3 rfl
    have la := A0.lt
    go_wp2
    clear d3 A0 la
    have hbn : qn ≤ 6 := by have := KH.out.fl; have := KH.out.n6; have := HN.out; omega
    go_loopw [22] (fun s wr => ∃ k : Nat, ∃ ve, k ≤ qn ∧ s = .int .i64 k ∧ Star w wr [oB g [.int .i64 r.letters, .int .i64 r.start, .slice ca cn cc, ve] 28, oE intssE [.slice ca cn cc] r.next, oB (w.heap.size + 1) [.int .i64 0, .int .i64 0, .slice none 0 0, .slice none 0 0] 28, oB w.heap.size [.int .i64 r.letters, .int .i64 r.start, .slice pa pn pc, .slice qa qn qc] 28, oE intsE [ve] ((r.fin.take k).map notEnd)]) (fun s _ => qn - (intOf s).toNat)
    case atStart => exact ⟨0, _, by omega, rfl, S⟩
    case round =>
      clear S
      obtain ⟨k, ve, hk, rfl, S⟩ := hrel
      obtain ⟨ea, en, ec, rfl⟩ := S.slc 4 rfl
      have A0 := S.blk 3 rfl
      have d3 := A0.cell 3 rfl
      have X0 := S.blk 0 rfl
      have c0 := X0.cell 0 rfl
      have c1 := X0.cell 1 rfl
      have c2 := X0.cell 2 rfl
      have c3 := X0.cell 3 rfl
      by_cases hlt : k < qn
      case neg =>
        obtain rfl : k = qn := by omega
        have ht : r.fin.take k = r.fin := List.take_of_length_le (by rw [HN.out]; exact Nat.le_refl _)
        rw [ht] at S
        have R0 := S.blk 2 rfl
        have f0 := R0.cell 0 rfl
        have f1 := R0.cell 1 rfl
        have f2 := R0.cell 2 rfl
        have f3 := R0.cell 3 rfl
        have ff := R0.free
        clear ht
        go_wp2
        generalize hW : (((wr.setCell _ _).setCell _ _).setCell _ _).setCell _ _ = w5
        have S5 := (S.sel [2, 1, 4]).set4 rfl hW
        have A3 := S5.blk 0 rfl
        have q0 := A3.cell 0 rfl
        have q1 := A3.cell 1 rfl
        have q2 := A3.cell 2 rfl
        have q3 := A3.cell 3 rfl
        have S6 := ((S5.int b1).int b2).sel [1, 0, 3, 4]
        obtain rfl := HX.out
        exact bodyPost_ret (v := .tuple #[.agg #[.int .i64 r.letters, .int .i64 r.start, .slice ca cn cc, .slice ea en ec], .int .i64 0]) (by simp [results, Try.results12, go_sem, q0, q1, q2, q3]) rfl (rot_done (x := ⟨r.letters, r.start, r.next, r.fin.map notEnd⟩) S6)
      obtain ⟨bb, oo, rfl, -, hc, -, -⟩ := E3.out k hlt
      have hkl : k < r.fin.length := by rw [← HN.out]; exact hlt
      have hget : r.fin[k]?.getD 0 = r.fin[k] := by simp [List.getElem?_eq_getElem hkl]
      rw [hget] at hc
      have hbd := KH.out.fin _ (List.getElem_mem hkl)
      have hn6 := KH.out.n6
      have g1 := (S.below.cell (World.block_lt_of_cell? w _ hc)).trans hc
      have htk : (r.fin.take (k + 1)).map notEnd = (r.fin.take k).map notEnd ++ [notEnd r.fin[k]] := by rw [List.take_succ_eq_append_getElem hkl, List.map_append]; rfl
      obtain ⟨e, hee⟩ : ∃ e, e = r.fin[k] := ⟨_, rfl⟩
      rw [← hee] at hbd g1 htk
      have HT := Lib.hid htk
      clear hc hget htk hee
      have hll : ((r.fin.take k).map notEnd).length ≤ 1000000000000 := by rw [List.length_map]; exact Nat.le_trans (List.length_take_le _ _) (by omega)
      by_cases he : e < 0
      all_goals
        first
          | (have hv : notEnd e = -3 - e := if_pos he
             have HV := Lib.hid hv; clear hv
             have hw : IntKind.i64.wrap (-3 - e) = -3 - e := IntWalk.i64_in _ ⟨by omega, by omega⟩
             have SA := ((S.alloc (cs := #[.int .i64 (-3 - e)]) (ty := 2)).int (x := -3 - e) ⟨by omega, by omega⟩).sel [6, 0, 2, 3, 4, 5])
          | (have hv : notEnd e = e := if_neg he
             have HV := Lib.hid hv; clear hv
             have SA := ((S.alloc (cs := #[.int .i64 e]) (ty := 2)).int (x := e) ⟨by omega, by omega⟩).sel [6, 0, 2, 3, 4, 5])
        go_wp2_with (at_builtin; refine st1_Int64S SA rfl rfl rfl rfl cell_a1 (one_mem rfl) hll ?_; intro ta tn tc w9 S9; have c3 := (S9.blk 1 rfl).cell 3 rfl; have cf := (S9.blk 1 rfl).free)
        have SB := (((S9.sel [1, 2, 3, 4, 0]).set 3 (.slice ta tn tc)))
        go_roundw
        case rel => exact ⟨k + 1, _, by omega, by go_num, by rw [HT.out, HV.out]; exact SB⟩
        case measure => simp [intOf]; omega

set_option maxHeartbeats 4000000 in
theorem specNotRotator_is (x : Rot × Int) (cs : List Value) (r : Rot) (B : Nat) (w : World) (hB0 : B ≤ w.heap.size) (h : rotsE.rd w B cs r) (hx : notRotator r = x) :
    Calls Try.prog 11 #[.agg cs.toArray] w (MakesC rotsE x w) := by
  have HX := Lib.hid hx
  have RA := Lib.hid h
  obtain ⟨v2, v3, rfl, b1, b2, h2, h3⟩ := rd_Rot h
  obtain ⟨pa, pn, pc, rfl⟩ := rd_slice h2
  obtain ⟨qa, qc, rfl, q1, q2, -, e3⟩ := rd_ints h3
  obtain ⟨qn, hqn⟩ : ∃ n, n = r.fin.length := ⟨_, rfl⟩
  rw [← hqn] at q1 e3 RA ⊢
  have HN := Lib.hid hqn
  have R2 := Lib.hid h2
  have E3 := Lib.hid e3
  clear hx h h2 h3 hqn e3
  have S := ((Star.nil w).alloc (cs := #[.int .i64 r.letters, .int .i64 r.start, .slice pa pn pc, .slice qa qn qc]) (ty := 28)).alloc (cs := #[.int .i64 0, .int .i64 0, .slice none 0 0, .slice none 0 0]) (ty := 28)
  rw [World.size_alloc] at S
  go_enter Try.func11, Try.ntmps11
  go_wp2_with fail
  generalize hW : (w.alloc _).alloc _ = w0 at S ⊢
  clear hW
  replace S : Star w w0 [oB (w.heap.size + 1) [.int .i64 0, .int .i64 0, .slice none 0 0, .slice none 0 0] 28, oB w.heap.size [.int .i64 r.letters, .int .i64 r.start, .slice pa pn pc, .slice qa qn qc] 28] := S
  refine (l06Ok_any _ _ r B _ (Nat.le_trans hB0 S.below.size) (rotsE.rd_of (S.below.mono hB0) RA.out) (fun i v hv => (S.blk 1 rfl).cell i hv)).mono ?_
  rintro e w1 ⟨rfl, b⟩
  replace S := S.step b
  clear b
  have A0 := S.blk 0 rfl
  cases h1 : validRot r
  case false =>
    have c0 := A0.cell 0 rfl
    have c1 := A0.cell 1 rfl
    have c2 := A0.cell 2 rfl
    have c3 := A0.cell 3 rfl
    have f0 := A0.free
    go_wp2
    generalize hW : (((w1.setCell _ _).setCell _ _).setCell _ _).setCell _ _ = w3
    replace S := S.set4 rfl hW
    have A3 := S.blk 0 rfl
    have q0 := A3.cell 0 rfl
    have q1 := A3.cell 1 rfl
    have q2 := A3.cell 2 rfl
    have q3 := A3.cell 3 rfl
    obtain rfl : x = (default, 1) := by rw [← HX.out]; unfold notRotator; rw [h1]; rfl
    exact bodyPost_ret (v := .tuple #[.agg #[.int .i64 0, .int .i64 0, .slice none 0 0, .slice none 0 0], .int .i64 1]) (by simp [results, Try.results11, go_sem, q0, q1, q2, q3]) rfl
      (S.flat (ow_Rot_zero _)).done
  have K := rotOk h1
  have HX : Hid (x = (⟨r.letters, r.start, r.next, r.fin.map notEnd⟩, 0)) := Lib.hid (by rw [← HX.out]; unfold notRotator; rw [h1]; rfl)
  clear h1 A0
  have KH := Lib.hid K; clear K
  have A0 := S.blk 1 rfl
  have HA := Lib.hid A0
  have d0 := A0.cell 0 rfl
  have d1 := A0.cell 1 rfl
  have d2 := A0.cell 2 rfl
  have d3 := A0.cell 3 rfl
  have la := A0.lt
  clear A0
  have HS := Lib.hid S; clear S
  go_upto_region 3 with fail
  go_cut [4] (fun s4 wx => ∃ g : Nat, ∃ ca cn cc, s4 = .pointer (some ⟨g, 0, none⟩) ∧ Star w wx [oB g [.int .i64 r.letters, .int .i64 r.start, .slice ca cn cc, .slice none 0 0] 28, oE intssE [.slice ca cn cc] r.next, oB (w.heap.size + 1) [.int .i64 0, .int .i64 0, .slice none 0 0, .slice none 0 0] 28, oB w.heap.size [.int .i64 r.letters, .int .i64 r.start, .slice pa pn pc, .slice qa qn qc] 28])
  case first =>
    have hne : w.heap.size ≠ w1.heap.size := by omega
    have da0 := fun o => (HA.out.alloc o).cell 0 rfl
    have da1 := fun o => (HA.out.alloc o).cell 1 rfl
    have da2 := fun o => (HA.out.alloc o).cell 2 rfl
    go_region_held3 (fun w' => w'.cell? ⟨w.heap.size, 0, none⟩ = some (.int .i64 r.letters) ∧ w'.cell? ⟨w.heap.size, 1, none⟩ = some (.int .i64 r.start) ∧ w'.cell? ⟨w.heap.size, 2, none⟩ = some (.slice pa pn pc))
      (first
        | (with_reducible exact ⟨d0, d1, d2⟩)
        | (with_reducible exact ⟨da0 _, da1 _, da2 _⟩)
        | (with_reducible exact ⟨e0, e1, e2⟩)
        | (with_reducible exact ⟨ea0 _, ea1 _, ea2 _⟩)
        | (with_reducible exact ⟨es0 _ _ _ _, es1 _ _ _ _, es2 _ _ _ _⟩)
        | go_keep)
      (first
        | (go_at_call 28
           with_reducible show Calls _ _ _ (World.drew (World.alloc _ _)) _
           refine (l06Rows_any _ r.next 0 B _ (by exact Nat.le_trans hB0 (HS.out.below.alloc HS.out.below.size _).size) (by exact intssE.rd_of ((HS.out.below.alloc HS.out.below.size _).drew.mono hB0) R2.out) (by have := KH.out.n6; omega) (fun x hx => by have h1 := (KH.out.row x hx).1; have h2 := KH.out.l3; have h3 := KH.out.n6; exact ⟨by omega, fun y hy => by have := (KH.out.row x hx).2 y hy; omega⟩) (by decide)).mono ?_
           rintro e w2 ⟨vc, fc, rfl, oc, nc, lo, b9⟩
           rw [plusAll_zero] at oc
           have N2 : Blk w2 w1.heap.size [.int .i64 0, .int .i64 0, .slice none 0 0, .slice none 0 0] 28 := (Blk.new w1 #[.int .i64 0, .int .i64 0, .slice none 0 0, .slice none 0 0] 28).of ((Below.refl _ _).drew.trans b9) (by simp)
           have c9 : Below w1.heap.size w1 w2 := ((Below.refl _ w1).alloc (Nat.le_refl _) _).drew.trans (b9.mono (by simp))
           have n0 := N2.cell 0 rfl
           have n1 := N2.cell 1 rfl
           have n2 := N2.cell 2 rfl
           have n3 := N2.cell 3 rfl
           have nf := N2.free
           have A1 := HA.out.of c9 la
           have e0 := A1.cell 0 rfl
           have e1 := A1.cell 1 rfl
           have e2 := A1.cell 2 rfl
           have ea0 := fun o => (A1.alloc o).cell 0 rfl
           have ea1 := fun o => (A1.alloc o).cell 1 rfl
           have ea2 := fun o => (A1.alloc o).cell 2 rfl
           have es0 := fun v0 v1 v2 v3 => ((((A1.other (a := ⟨w1.heap.size, 0, none⟩) hne v0).other (a := ⟨w1.heap.size, 1, none⟩) hne v1).other (a := ⟨w1.heap.size, 2, none⟩) hne v2).other (a := ⟨w1.heap.size, 3, none⟩) hne v3).cell 0 rfl
           have es1 := fun v0 v1 v2 v3 => ((((A1.other (a := ⟨w1.heap.size, 0, none⟩) hne v0).other (a := ⟨w1.heap.size, 1, none⟩) hne v1).other (a := ⟨w1.heap.size, 2, none⟩) hne v2).other (a := ⟨w1.heap.size, 3, none⟩) hne v3).cell 1 rfl
           have es2 := fun v0 v1 v2 v3 => ((((A1.other (a := ⟨w1.heap.size, 0, none⟩) hne v0).other (a := ⟨w1.heap.size, 1, none⟩) hne v1).other (a := ⟨w1.heap.size, 2, none⟩) hne v2).other (a := ⟨w1.heap.size, 3, none⟩) hne v3).cell 2 rfl
           clear A1
           obtain ⟨ca, cn, cc, rfl⟩ := ow_slice oc)
        | (go_at_call 28
           refine (l06Rows_any _ r.next 0 B _ (by exact Nat.le_trans hB0 HS.out.below.size) (by exact intssE.rd_of (HS.out.below.drew.mono hB0) R2.out) (by have := KH.out.n6; omega) (fun x hx => by have h1 := (KH.out.row x hx).1; have h2 := KH.out.l3; have h3 := KH.out.n6; exact ⟨by omega, fun y hy => by have := (KH.out.row x hx).2 y hy; omega⟩) (by decide)).mono ?_
           rintro e w2 ⟨vc, fc, rfl, oc, nc, lo, b9⟩
           rw [plusAll_zero] at oc
           have c9 : Below w1.heap.size w1 w2 := (Below.refl _ w1).drew.trans b9
           have A1 := HA.out.of c9 la
           have e0 := A1.cell 0 rfl
           have e1 := A1.cell 1 rfl
           have e2 := A1.cell 2 rfl
           have ea0 := fun o => (A1.alloc o).cell 0 rfl
           have ea1 := fun o => (A1.alloc o).cell 1 rfl
           have ea2 := fun o => (A1.alloc o).cell 2 rfl
           have es0 := fun v0 v1 v2 v3 => ((((A1.other (a := ⟨w1.heap.size, 0, none⟩) hne v0).other (a := ⟨w1.heap.size, 1, none⟩) hne v1).other (a := ⟨w1.heap.size, 2, none⟩) hne v2).other (a := ⟨w1.heap.size, 3, none⟩) hne v3).cell 0 rfl
           have es1 := fun v0 v1 v2 v3 => ((((A1.other (a := ⟨w1.heap.size, 0, none⟩) hne v0).other (a := ⟨w1.heap.size, 1, none⟩) hne v1).other (a := ⟨w1.heap.size, 2, none⟩) hne v2).other (a := ⟨w1.heap.size, 3, none⟩) hne v3).cell 1 rfl
           have es2 := fun v0 v1 v2 v3 => ((((A1.other (a := ⟨w1.heap.size, 0, none⟩) hne v0).other (a := ⟨w1.heap.size, 1, none⟩) hne v1).other (a := ⟨w1.heap.size, 2, none⟩) hne v2).other (a := ⟨w1.heap.size, 3, none⟩) hne v3).cell 2 rfl
           clear A1
           obtain ⟨ca, cn, cc, rfl⟩ := ow_slice oc))
    all_goals
      go_wp2_with fail
      go_meet
      try clear da0 da1 da2 e0 e1 e2 ea0 ea1 ea2 es0 es1 es2
      first
        | (refine ⟨_, ca, cn, cc, rfl, ?_⟩
           have S1 := (HS.out.made oc nc lo c9).alloc (cs := #[.int .i64 r.letters, .int .i64 r.start, .slice ca cn cc, .slice none 0 0]) (ty := 28)
           exact S1)
        | (refine ⟨w1.heap.size, ca, cn, cc, rfl, ?_⟩
           have S1 := (HS.out.alloc (cs := #[.int .i64 0, .int .i64 0, .slice none 0 0, .slice none 0 0]) (ty := 28)).made oc nc (fun b hb => by have := lo b hb; simpa using this) (by first | exact (Below.refl _ _).drew.trans b9)
           have S2 := (S1.sel [1, 0, 2, 3]).set4 (v0 := .int .i64 r.letters) (v1 := .int .i64 r.start) (v2 := .slice ca cn cc) (v3 := .slice none 0 0) (w' := _) rfl rfl
           exact S2)
  case rest =>
    clear HS HA d0 d1 d2 d3 la
    obtain ⟨g, ca, cn, cc, rfl, S⟩ := hcut
    replace S := (S.nils intE 2).sel [1, 2, 3, 4, 0]
    replace S : Star w wc [oB g [.int .i64 r.letters, .int .i64 r.start, .slice ca cn cc, .slice none 0 0] 28, oE intssE [.slice ca cn cc] r.next, oB (w.heap.size + 1) [.int .i64 0, .int .i64 0, .slice none 0 0, .slice none 0 0] 28, oB w.heap.size [.int .i64 r.letters, .int .i64 r.start, .slice pa pn pc, .slice qa qn qc] 28, oE intsE [.slice none 0 0] ((r.fin.take 0).map notEnd)] := S
    have A0 := S.blk 3 rfl
    have d3 := A0.cell 3 rfl
    have la := A0.lt
    go_wp2
    clear d3 A0 la
    have hbn : qn ≤ 6 := by have := KH.out.fl; have := KH.out.n6; have := HN.out; omega
    go_loopw [5] (fun s wr => ∃ k : Nat, ∃ ve, k ≤ qn ∧ s = .int .i64 k ∧ Star w wr [oB g [.int .i64 r.letters, .int .i64 r.start, .slice ca cn cc, ve] 28, oE intssE [.slice ca cn cc] r.next, oB (w.heap.size + 1) [.int .i64 0, .int .i64 0, .slice none 0 0, .slice none 0 0] 28, oB w.heap.size [.int .i64 r.letters, .int .i64 r.start, .slice pa pn pc, .slice qa qn qc] 28, oE intsE [ve] ((r.fin.take k).map notEnd)]) (fun s _ => qn - (intOf s).toNat)
    case atStart => exact ⟨0, _, by omega, rfl, S⟩
    case round =>
      clear S
      obtain ⟨k, ve, hk, rfl, S⟩ := hrel
      obtain ⟨ea, en, ec, rfl⟩ := S.slc 4 rfl
      have A0 := S.blk 3 rfl
      have d3 := A0.cell 3 rfl
      have X0 := S.blk 0 rfl
      have c0 := X0.cell 0 rfl
      have c1 := X0.cell 1 rfl
      have c2 := X0.cell 2 rfl
      have c3 := X0.cell 3 rfl
      by_cases hlt : k < qn
      case neg =>
        obtain rfl : k = qn := by omega
        have ht : r.fin.take k = r.fin := List.take_of_length_le (by rw [HN.out]; exact Nat.le_refl _)
        rw [ht] at S
        have R0 := S.blk 2 rfl
        have f0 := R0.cell 0 rfl
        have f1 := R0.cell 1 rfl
        have f2 := R0.cell 2 rfl
        have f3 := R0.cell 3 rfl
        have ff := R0.free
        clear ht
        go_wp2
        generalize hW : (((wr.setCell _ _).setCell _ _).setCell _ _).setCell _ _ = w5
        have S5 := (S.sel [2, 1, 4]).set4 rfl hW
        have A3 := S5.blk 0 rfl
        have q0 := A3.cell 0 rfl
        have q1 := A3.cell 1 rfl
        have q2 := A3.cell 2 rfl
        have q3 := A3.cell 3 rfl
        have S6 := ((S5.int b1).int b2).sel [1, 0, 3, 4]
        obtain rfl := HX.out
        exact bodyPost_ret (v := .tuple #[.agg #[.int .i64 r.letters, .int .i64 r.start, .slice ca cn cc, .slice ea en ec], .int .i64 0]) (by simp [results, Try.results11, go_sem, q0, q1, q2, q3]) rfl (rot_done (x := ⟨r.letters, r.start, r.next, r.fin.map notEnd⟩) S6)
      obtain ⟨bb, oo, rfl, -, hc, -, -⟩ := E3.out k hlt
      have hkl : k < r.fin.length := by rw [← HN.out]; exact hlt
      have hget : r.fin[k]?.getD 0 = r.fin[k] := by simp [List.getElem?_eq_getElem hkl]
      rw [hget] at hc
      have hbd := KH.out.fin _ (List.getElem_mem hkl)
      have hn6 := KH.out.n6
      have g1 := (S.below.cell (World.block_lt_of_cell? w _ hc)).trans hc
      have htk : (r.fin.take (k + 1)).map notEnd = (r.fin.take k).map notEnd ++ [notEnd r.fin[k]] := by rw [List.take_succ_eq_append_getElem hkl, List.map_append]; rfl
      obtain ⟨e, hee⟩ : ∃ e, e = r.fin[k] := ⟨_, rfl⟩
      rw [← hee] at hbd g1 htk
      have HT := Lib.hid htk
      clear hc hget htk hee
      have hll : ((r.fin.take k).map notEnd).length ≤ 1000000000000 := by rw [List.length_map]; exact Nat.le_trans (List.length_take_le _ _) (by omega)
      by_cases he : e < 0
      all_goals
        first
          | (have hv : notEnd e = -3 - e := if_pos he
             have HV := Lib.hid hv; clear hv
             have hw : IntKind.i64.wrap (-3 - e) = -3 - e := IntWalk.i64_in _ ⟨by omega, by omega⟩
             have SA := ((S.alloc (cs := #[.int .i64 (-3 - e)]) (ty := 2)).int (x := -3 - e) ⟨by omega, by omega⟩).sel [6, 0, 2, 3, 4, 5])
          | (have hv : notEnd e = e := if_neg he
             have HV := Lib.hid hv; clear hv
             have SA := ((S.alloc (cs := #[.int .i64 e]) (ty := 2)).int (x := e) ⟨by omega, by omega⟩).sel [6, 0, 2, 3, 4, 5])
        go_wp2_with (at_builtin; refine st1_Int64S SA rfl rfl rfl rfl cell_a1 (one_mem rfl) hll ?_; intro ta tn tc w9 S9; have c3 := (S9.blk 1 rfl).cell 3 rfl; have cf := (S9.blk 1 rfl).free)
        have SB := (((S9.sel [1, 2, 3, 4, 0]).set 3 (.slice ta tn tc)))
        go_roundw
        case rel => exact ⟨k + 1, _, by omega, by go_num, by rw [HT.out, HV.out]; exact SB⟩
        case measure => simp [intOf]; omega

end Go.Proofs.Ytaaiabfhnfjlpaa
