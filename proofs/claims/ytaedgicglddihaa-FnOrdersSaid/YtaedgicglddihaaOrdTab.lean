/-
  GreatestOrder: the program's tables in memory: rows of two cells, the lists of powers in a pool of blocks that are never written again.
-/
import Derived.Test.YtaedgicglddihaaOrdSort
import Derived.Test.YtaedgicglddihaaStarJ
import Derived.Test.YtaedgicglddihaaOrdCompact
namespace Go.Proofs.Ytaedgicglddihaa
open Go.RowKit

/-- Two cells as they are. -/
def rawE : Enc (Value × Value) where
  size := 2
  rd _ _ cs a := cs = [a.1, a.2] ∧ a.1.oneCell' = true ∧ a.2.oneCell' = true
  ow _ cs a fp := (cs = [a.1, a.2] ∧ a.1.oneCell' = true ∧ a.2.oneCell' = true) ∧ fp = []
  rd_len h := by rw [h.1]; rfl
  rd_below _ h := h
  rd_mono _ h := h
  ow_rd _ h := h.1
  ow_lt h b hb := by rw [h.2] at hb; cases hb
  ow_frame _ h := h

abbrev tabE : Enc (List (Value × Value)) := sliceE rawE 40

/-- Slices of integers that are only read. -/
def oPool (vs : List (Value × List Int)) : Ob :=
  ⟨fun w fp => ∀ p, p ∈ vs → ∃ f, intsE.ow w [p.1] p.2 f ∧ ∀ b, b ∈ f → b ∈ fp, fun hf h p hp => by
    obtain ⟨f, h1, h2⟩ := h p hp
    exact ⟨f, intsE.ow_frame (fun b hb => hf b (h2 b hb)) h1, h2⟩⟩

section
variable {w0 w : World} {ps : List Ob}
theorem Star.pool0 (S : Star w0 w ps) : Star w0 w (oPool [(.slice none 0 0, [])] :: ps) :=
  S.push (P := oPool _) (f := []) (Below.refl _ _) (fun p hp => by
    obtain rfl := List.mem_singleton.1 hp
    exact ⟨[], ow_nil _ _ _, fun b hb => by cases hb⟩) List.nodup_nil (fun b hb => by cases hb) (fun b hb => by cases hb)

theorem Star.poolAdd {u : Value} {y : List Int} {vs : List (Value × List Int)} (S : Star w0 w (oE intsE [u] y :: oPool vs :: ps)) : Star w0 w (oPool ((u, y) :: vs) :: ps) :=
  S.join fun f g h1 h2 p hp => by
    rcases List.mem_cons.1 hp with rfl | hp
    · exact ⟨f, h1, fun b hb => List.mem_append_left _ hb⟩
    · obtain ⟨f', h3, h4⟩ := h2 p hp
      exact ⟨f', h3, fun b hb => List.mem_append_right _ (h4 b hb)⟩

theorem Star.poolRd {vs : List (Value × List Int)} (S : Star w0 w ps) (n : Nat) (h : ps[n]? = some (oPool vs)) {u : Value} {y : List Int} (hm : (u, y) ∈ vs) : intsE.rd w w.heap.size [u] y := by
  obtain ⟨_, fp, hh, _⟩ := S
  obtain ⟨f, h1, h2⟩ := (hh n _ h).1 _ hm
  exact intsE.rd_ow h1
end

/-- What a table's rows hold. -/
structure TabRaw (T : OTab) (R : List (Value × Value)) (vs : List (Value × List Int)) : Prop where
  len : R.length = T.length
  row : ∀ i, i < T.length → ∃ v, R[i]? = some (.int .i64 (((oAt T i).1 : Nat) : Int), v) ∧ (v, oList (oAt T i).2) ∈ vs

theorem TabRaw.start (n : Nat) : TabRaw (List.replicate n (1, [])) (List.replicate n (.int .i64 1, .slice none 0 0)) [(.slice none 0 0, [])] := by
  refine ⟨by simp, fun i hi => ⟨.slice none 0 0, ?_, ?_⟩⟩
  · have hi' : i < n := by simpa using hi
    rw [List.getElem?_replicate, if_pos hi']
    unfold oAt
    rw [List.getElem?_replicate, if_pos hi']
    rfl
  · have hi' : i < n := by simpa using hi
    unfold oAt
    rw [List.getElem?_replicate, if_pos hi']
    simp [oList]

theorem TabRaw.more {T : OTab} {R : List (Value × Value)} {vs : List (Value × List Int)} (h : TabRaw T R vs) (p : Value × List Int) : TabRaw T R (p :: vs) :=
  ⟨h.len, fun i hi => by
    obtain ⟨v, h1, h2⟩ := h.row i hi
    exact ⟨v, h1, List.mem_cons_of_mem _ h2⟩⟩

theorem TabRaw.set {T : OTab} {R : List (Value × Value)} {vs : List (Value × List Int)} (h : TabRaw T R vs) (n : Nat) (e : OEnt) (v : Value) (hv : (v, oList e.2) ∈ vs) : TabRaw (T.set n e) (R.set n (.int .i64 ((e.1 : Nat) : Int), v)) vs := by
  refine ⟨by simp [h.len], fun i hi => ?_⟩
  have hi' : i < T.length := by simpa using hi
  by_cases hn : n = i
  · subst hn
    refine ⟨v, ?_, ?_⟩
    · rw [oAt_set T n n e hi', if_pos rfl, List.getElem?_set_self (by rw [h.len]; exact hi')]
    · rw [oAt_set T n n e hi', if_pos rfl]; exact hv
  · obtain ⟨u, h1, h2⟩ := h.row i hi'
    have e1 : oAt (T.set n e) i = oAt T i := by
      unfold oAt
      rw [List.getElem?_set_ne hn]
    rw [e1]
    exact ⟨u, by rw [List.getElem?_set_ne hn]; exact h1, h2⟩

def cRaw (p : Value × Value) : List Value := [p.1, p.2]

theorem raw_flat {w : World} {R : List (Value × Value)} {xss : List (List Value)} {fps : List (List Nat)} (h : OwAll rawE w R xss fps) : xss.flatten = R.flatMap cRaw ∧ fps.flatten = [] ∧ ∀ p, p ∈ R → p.1.oneCell' = true ∧ p.2.oneCell' = true := by
  induction h with
  | nil => exact ⟨rfl, rfl, fun p hp => by cases hp⟩
  | cons h1 h2 ih =>
    obtain ⟨⟨rfl, ha, hb⟩, rfl⟩ := h1
    refine ⟨by simp [ih.1, cRaw], by simp [ih.2.1], fun p hp => ?_⟩
    rcases List.mem_cons.1 hp with rfl | hp
    · exact ⟨ha, hb⟩
    · exact ih.2.2 p hp

theorem raw_mk (w : World) (R : List (Value × Value)) (hb : ∀ p, p ∈ R → p.1.oneCell' = true ∧ p.2.oneCell' = true) : OwAll rawE w R (R.map cRaw) (R.map fun _ => []) := by
  induction R with
  | nil => exact .nil
  | cons x l ih => exact .cons ⟨⟨rfl, hb x (by simp)⟩, rfl⟩ (ih fun y hy => hb y (by simp [hy]))

theorem raw_len (R : List (Value × Value)) : (R.flatMap cRaw).length = R.length * 2 := flatMap_len' cRaw 2 R (fun _ _ => rfl)

theorem raw_set (R : List (Value × Value)) (i : Nat) (a b : Value) : (R.set i (a, b)).flatMap cRaw = ((R.flatMap cRaw).set (i * 2) a).set (i * 2 + 1) b := by
  induction R generalizing i with
  | nil => simp
  | cons x R ih =>
    cases i with
    | zero => simp [cRaw]
    | succ i =>
      rw [List.set_cons_succ, List.flatMap_cons, List.flatMap_cons, ih i, show (i + 1) * 2 = i * 2 + 1 + 1 from by omega]
      simp [cRaw]

theorem raw_nodup (R : List (Value × Value)) : (R.map fun _ => ([] : List Nat)).flatten = [] := by
  induction R with
  | nil => rfl
  | cons x l ih => simp [ih]

theorem Star.setRaw {w0 w : World} {ps : List Ob} {R : List (Value × Value)} {g n c : Nat} (S : Star w0 w (oE tabE [.slice (some ⟨g, 0, none⟩) n c] R :: ps)) (i : Nat) (hi : i < R.length) (a b : Value) (ha : a.oneCell' = true) (hb : b.oneCell' = true) :
    Star w0 ((w.setCell ⟨g, i * 2, none⟩ a).setCell ⟨g, i * 2 + 1, none⟩ b) (oE tabE [.slice (some ⟨g, 0, none⟩) n c] (R.set i (a, b)) :: ps) := by
  refine S.upd ?_
  rintro fp ⟨v, xss, fps, he, h1, h2, rfl⟩ nd hlt
  simp only [List.cons.injEq, and_true] at he
  subst he
  obtain ⟨e1, e2, e3⟩ := raw_flat h1
  rw [e1] at h2
  obtain ⟨hx, h3⟩ := h2
  rcases h3 with ⟨h3, -⟩ | ⟨g', cap, cur, e3', hg, hh, hc, hm, hs, ht⟩
  · cases h3
  simp only [Value.slice.injEq, Option.some.injEq, Addr.mk.injEq, and_true] at e3'
  obtain ⟨rfl, rfl, rfl⟩ := e3'
  have hB : Blk w g cur.toList 40 := by unfold Blk; rw [hh]
  have hB' := (hB.set (i * 2) a).set (i * 2 + 1) b
  have hone : ∀ p, p ∈ R.set i (a, b) → p.1.oneCell' = true ∧ p.2.oneCell' = true := by
    intro p hp
    rcases List.mem_or_eq_of_mem_set hp with h | h
    · exact e3 p h
    · rw [h]; exact ⟨ha, hb⟩
  refine ⟨[g], ⟨_, _, _, rfl, raw_mk _ _ hone, ⟨?_, .inr ⟨g, c, ((cur.toList.set (i * 2) a).set (i * 2 + 1) b).toArray, by rw [List.length_set], Nat.zero_le _, hB', by rw [List.length_set]; exact hc, hm, by simpa using hs, ?_⟩⟩, ?_⟩, by simp, fun b hb => ?_, fun b hb => ?_, ?_⟩
  · rw [show ((R.set i (a, b)).map cRaw).flatten = (R.set i (a, b)).flatMap cRaw from rfl, raw_len, List.length_set]; rfl
  · rw [show ((R.set i (a, b)).map cRaw).flatten = (R.set i (a, b)).flatMap cRaw from rfl, raw_set, ← ht, List.length_set]
    show (((cur.toList.set (i * 2) a).set (i * 2 + 1) b).take (R.length * 2)) = ((cur.toList.take (R.length * 2)).set (i * 2) a).set (i * 2 + 1) b
    rw [List.take_set, List.take_set]
  · rw [raw_nodup]; simp [Value.ownBlock]
  · rw [List.mem_singleton.1 hb]; exact .inl (by simp [Value.ownBlock])
  · rw [List.mem_singleton.1 hb]
    have := hlt g (by simp [Value.ownBlock])
    simpa using this
  · exact ((But.refl _ _).setCell (by simp [Value.ownBlock]) _).setCell (by simp [Value.ownBlock]) _

/-- The cells of a table. -/
theorem Star.rawAt {w0 w : World} {ps : List Ob} {R : List (Value × Value)} {g m c : Nat} (S : Star w0 w ps) (n : Nat) (h : ps[n]? = some (oE tabE [.slice (some ⟨g, 0, none⟩) m c] R)) (i : Nat) (p : Value × Value) (hi : R[i]? = some p) :
    w.cell? ⟨g, i * 2, none⟩ = some p.1 ∧ w.cell? ⟨g, i * 2 + 1, none⟩ = some p.2 := by
  obtain ⟨a, cap, hv, -, -, -, h4⟩ := S.rd n h
  simp only [List.cons.injEq, Value.slice.injEq, and_true] at hv
  obtain ⟨ha, -, -⟩ := hv
  obtain ⟨b, o, xs, hb, -, ⟨rfl, -, -⟩, h5⟩ := h4 i p hi
  rw [hb] at ha
  simp only [Option.some.injEq, Addr.mk.injEq, and_true] at ha
  obtain ⟨rfl, rfl⟩ := ha
  have h6 := h5 0 p.1 rfl
  have h7 := h5 1 p.2 rfl
  rw [Nat.zero_add] at h6 h7
  exact ⟨h6, h7⟩

theorem Star.rawFree {w0 w : World} {ps : List Ob} {R : List (Value × Value)} {g m c : Nat} (S : Star w0 w ps) (n : Nat) (h : ps[n]? = some (oE tabE [.slice (some ⟨g, 0, none⟩) m c] R)) : (∀ i, w.frozen? ⟨g, i, none⟩ = false) ∧ m = R.length ∧ R.length ≤ c ∧ c ≤ maxLen := by
  obtain ⟨f, v, xss, fps, he, h1, h2, rfl⟩ := S.own n h
  simp only [List.cons.injEq, and_true] at he
  subst he
  obtain ⟨hx, h3⟩ := h2
  rcases h3 with ⟨h3, -⟩ | ⟨g', cap, cur, e3', hg, hh, hc, hm, hs, ht⟩
  · cases h3
  simp only [Value.slice.injEq, Option.some.injEq, Addr.mk.injEq, and_true] at e3'
  obtain ⟨rfl, rfl, rfl⟩ := e3'
  have hB : Blk w g cur.toList 40 := by unfold Blk; rw [hh]
  exact ⟨hB.free, rfl, hc, hm⟩

theorem inf_ProductS : (Try.prog.info? 40).map (fun i => (i.zero, i.size, i.bytes)) = some (some (.agg #[.int .i64 0, .slice none 0 0]), 2, 32) := by kernel_rfl

def cIf (p : Value × Value) : List Value := if p.1.oneCell' && p.2.oneCell' then [p.1, p.2] else []
theorem cIf_pos {p : Value × Value} (h : p.1.oneCell' = true ∧ p.2.oneCell' = true) : cIf p = [p.1, p.2] := by unfold cIf; rw [h.1, h.2]; rfl
theorem cIf_one (p : Value × Value) (u : Value) (hu : u ∈ cIf p) : u.oneCell' = true := by
  unfold cIf at hu
  split at hu
  · rename_i h
    have h2 : p.1.oneCell' = true ∧ p.2.oneCell' = true := by simpa using h
    rcases List.mem_cons.1 hu with rfl | hu
    · exact h2.1
    · rw [List.mem_singleton.1 hu]; exact h2.2
  · cases hu

set_option maxHeartbeats 400000 in
theorem clone_tab (v : Value) (l : List (Value × Value)) (B : Nat) (w : World) (hB0 : B ≤ w.heap.size) (h : tabE.rd w B [v] l) (hl : l.length ≤ 1000000) (hl0 : 0 < l.length) : Calls Try.prog 20 #[v] w (Makes tabE id l w) := by
  have R := Lib.hid h
  obtain ⟨a, n, cap, rfl⟩ := rd_slice h
  have hk := fun w => Lib.run_eql_slice_nil (P := Try.prog) w _ _ a n cap 0 0 Try.underlying37
  have hnil : a ≠ none := by
    intro ha
    obtain ⟨a', cap', he, h1, h2, h3, h4⟩ := h
    have hc : a = a' := by have := he; simp at this; exact this.1
    have := h3 (hc ▸ ha)
    omega
  clear h
  rcases a with _ | ad
  · exact absurd rfl hnil
  clear hnil
  obtain ⟨i0, hi, hz0, hz1, hz2⟩ := info_parts inf_ProductS
  obtain ⟨W, hW⟩ : ∃ W, W = w.alloc (.cells #[] 40) := ⟨_, rfl⟩
  have hb : Below w.heap.size w W := hW ▸ ((Below.refl _ w).alloc (Nat.le_refl _) _)
  have hown : tabE.ow W [.slice (some ⟨w.heap.size, 0, none⟩) 0 0] [] [w.heap.size] := by
    have hB := hW ▸ Blk.new w #[] 40
    exact ⟨_, [], [], rfl, .nil, ⟨by simp, .inr ⟨w.heap.size, 0, #[], rfl, Nat.zero_le _, hB, Nat.le_refl _, Nat.zero_le _, by simp, by simp⟩⟩, by simp [Value.ownBlock]⟩
  obtain ⟨css, fys, hys, hf, hs⟩ := src_of_rd (E := rawE) cIf (fun x cs h => by rw [cIf_pos h.2]; exact ⟨h.1, ⟨h.1, h.2⟩, rfl⟩) cIf_one (tabE.rd_of (hb.mono hB0) R.out)
  have HB := Lib.hid hb
  subst hW
  have hd : ([w.heap.size] ++ fys.flatten).Nodup := by rw [hf]; simp
  have HF := Lib.hid hf
  have hl' : ([] : List (Value × Value)).length + l.length ≤ 1000000000000 := by simp; omega
  clear hf hb
  go_enter Try.func20, Try.ntmps20
  go_wp2_with (at_builtin; refine wpList_append_enc (E := rawE) rfl _ _ _ rfl i0 _ _ Try.underlying37 hi hz0 hz1 hz2 rfl (by decide) rfl hown hys hs hd (by simp only [maxLen]; omega) (by omega) ?_; intro v' w' fp' k1 k2 k3 k4)
  obtain ⟨sa, sn, sc, rfl⟩ := ow_slice k1
  go_ret
  rw [List.nil_append] at k1
  have hlo : ∀ b, b ∈ [w.heap.size] → w.heap.size ≤ b := by intro b hb; have : b = w.heap.size := by simpa using hb
                                                            omega
  refine ⟨.slice sa sn sc, fp', rfl, k1, k2, fun b hb => ?_, HB.out.trans (k4.below hlo (by simp))⟩
  rcases k3 b hb with h | h | h
  · have : b = w.heap.size := by simpa using h
    omega
  · rw [HF.out] at h; cases h
  · have := h; simp at this; omega

end Go.Proofs.Ytaedgicglddihaa
