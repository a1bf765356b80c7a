/-
  What this claim leans on: values in cells, contracts of functions (10 texts of this claim's own, laid together).
-/
import Derived.Test.YtjochoghmpcgdaaDoorPackB
import Derived.Deep.DeepCutAuto
import Derived.Test.YtjochoghmpcgdaaDoorPackA
import Derived.Maps.OwnOps
/-
  The walk of wordsOf.
-/
namespace Go.Proofs.YtjochoghmpcgdaaDoor
open Go.RowKit

set_option maxHeartbeats 8000000 in
set_option maxRecDepth 100000 in
theorem wordsOf_any {σ : Type} (step : List UInt8 → σ → σ × Bool) (mk : σ → List Ob) (F : FuncId) (v1 v2 v3 v4 : Value) (c len : Nat) (hc : 1 ≤ c ∧ c ≤ 3) (hlen : len ≤ 60) (hcall : ∀ (y : ByteArray) (w : World), (callFunc F #[.string y, v1, v2, v3, v4]).run Tryd.prog w = .ok (.enter F #[.string y, v1, v2, v3, v4]) w) (w0 w : World) (s : σ) (ps : List Ob) (R : σ × Bool)
    (hcb : ∀ x, x ∈ wordsN c len → ∀ (s : σ) (ps : List Ob) (w : World), Star w0 w (mk s ++ ps) → Calls Tryd.prog F #[.string ⟨x.toArray⟩, v1, v2, v3, v4] w (fun e w' => e = .returned (.bool (step x s).2) ∧ Star w0 w' (mk (step x s).1 ++ ps)))
    (S : Star w0 w (mk s ++ ps)) (hR : scanW step (wordsN c len) s = R) :
    Calls Tryd.prog 23 #[.int .i64 (c : Nat), .int .i64 (len : Nat), .func (.func F) #[] #[v1, v2, v3, v4]] w (fun e w' => e = .returned (.bool R.2) ∧ Star w0 w' (mk R.1 ++ ps)) := by
  have HCB := Lib.hid hcb
  have HR := Lib.hid hR
  clear hcb hR
  have S1 := S.alloc (cs := #[.int .u8 97]) (ty := 5)
  have h0 := (S1.blk 0 rfl).cell 0 rfl
  have HREP : Hid (Calls Tryd.prog 48 #[.slice (some ⟨w.heap.size, 0, none⟩) 1 1, .int .i64 (len : Nat)] (w.alloc (.cells #[.int .u8 97] 5)) (RowB (bytesV (digs c len 0)) len (w.alloc (.cells #[.int .u8 97] 5)))) := Lib.hid (by
    have e : bytesV (digs c len 0) = List.replicate len (.int .u8 97) := by
      clear HR HCB S1 h0 S hlen
      induction len with
      | zero => rfl
      | succ n ih =>
        rw [digs_last, Nat.zero_div, Nat.zero_mod]
        unfold bytesV at ih ⊢
        rw [List.map_append, ih, List.replicate_succ']
        rfl
    rw [e]
    by_cases hl : len = 0
    · subst hl
      exact repeat_0 _ 1 _ h0
    · exact repeat_b _ 1 len ⟨by omega, hlen⟩ _ h0)
  go_enter Tryd.func23, Tryd.ntmps23
  go_wp2_with fail
  refine HREP.out.mono ?_
  rintro e w2 ⟨q, rfl, r1, r2, r3⟩
  replace S1 := S1.tl
  have S2 : Star w0 w2 (oB q (bytesV (digs c len 0)) 5 :: (mk s ++ ps)) := S1.push (P := oB q (bytesV (digs c len 0)) 5) (f := [q]) r3 ⟨r1, rfl⟩ (by simp) (fun b hb => by rw [List.mem_singleton.1 hb]; exact r2) (fun b hb => by rw [List.mem_singleton.1 hb]; exact r1.lt)
  have hpos : 0 < (wordsN c len).length := by
    clear HR HCB S1 h0 HREP S2 S hlen r1 r2 r3
    induction len with
    | zero => exact Nat.zero_lt_one
    | succ n ih => rw [wordsN_len]; exact Nat.mul_pos ih (by omega)
  clear S1 S h0 HREP r1 r2 r3
  obtain ⟨WN, hWN⟩ : ∃ z, z = (wordsN c len).length := ⟨_, rfl⟩
  rw [← hWN] at hpos
  have HWN := Lib.hid hWN
  clear hWN
  go_wp2
  go_loopw [8] (fun _ wr => ∃ (k : Nat) (s' : σ), k < WN ∧ Star w0 wr (oB q (bytesV (digs c len k)) 5 :: (mk s' ++ ps)) ∧ Hid (scanW step ((wordsN c len).drop k) s' = R)) (fun _ wr => WN - numV c (rowAt wr q))
  case atStart => exact ⟨0, s, hpos, S2, HR⟩
  case round =>
    clear S2 HR
    obtain ⟨k, s', hk, S, HR⟩ := hrel
    have hnum : numV c (rowAt wr q) = k := by
      have h := (S.blk 0 rfl)
      unfold Blk at h
      unfold rowAt
      rw [h]
      exact numV_digs hc len k (by rw [← HWN.out]; exact hk)
    have HNUM := Lib.hid hnum
    obtain ⟨x, hx⟩ : ∃ x, x = digs c len k := ⟨_, rfl⟩
    have hxl : x.length = len := by rw [hx, digs_len]
    have hget : (wordsN c len)[k]? = some x := by rw [hx]; exact wordsN_get c (by omega) len k (by rw [← HWN.out]; exact hk)
    have hmem : x ∈ wordsN c len := List.mem_of_getElem? hget
    have hdrop : (wordsN c len).drop k = x :: (wordsN c len).drop (k + 1) := by
      have hkl := (List.getElem?_eq_some_iff.1 hget).1
      rw [List.drop_eq_getElem_cons hkl, (List.getElem?_eq_some_iff.1 hget).2]
    have hR2 := HR.out
    rw [hdrop, scanW] at hR2
    have HR2 := Lib.hid hR2
    rw [← hx] at S
    have hcv := run_convert_bytes_back (P := Tryd.prog) wr 22 9 5 ⟨q, 0, none⟩ len x Tryd.underlying22 Tryd.underlying5 Tryd.underlying9 (fun j hj => by
      rw [Addr.add_lit, Nat.zero_add]
      refine (S.blk 0 rfl).cell j ?_
      unfold bytesV
      rw [List.getElem?_map, List.getElem?_eq_getElem hj]
      rfl)
    rw [hxl] at hcv
    have HCALL := Lib.hid (HCB.out x hmem s' (oB q (bytesV x) 5 :: ps) wr S.mid)
    have HX := Lib.hid hx
    have HXL := Lib.hid hxl
    clear hnum hx hxl hget hmem hdrop hR2 HR
    obtain ⟨⟨t', bt⟩, hst⟩ : ∃ y, y = step x s' := ⟨_, rfl⟩
    rw [← hst] at HCALL HR2
    simp only at HR2 HCALL
    clear hst
    go_wp2_with fail
    refine HCALL.out.mono ?_
    rintro e w3 ⟨rfl, S3⟩
    replace S := S3.mid'
    clear S3 HCALL hcv
    cases bt
    case true =>
      have hR3 : (t', true) = R := by have h := HR2.out; rw [if_pos rfl] at h; exact h
      subst hR3
      go_wp2
      go_ret
      exact ⟨rfl, S.tl⟩
    have hR3 : scanW step ((wordsN c len).drop (k + 1)) t' = R := by have h := HR2.out; rw [if_neg (by decide)] at h; exact h
    have HR3 := Lib.hid hR3
    clear hR3 HR2
    have HI0 := Lib.hid (NextI.start (c := c) (len := len) (k := k) (by rw [← HWN.out]; exact hk))
    rw [← HX.out] at HI0
    have wl : IntKind.i64.wrap ((len : Int) - 1) = (len : Int) - 1 := IntWalk.i64_in _ ⟨by omega, by omega⟩
    go_wp2
    go_loopw [8] (fun vi wr' => ∃ (n m : Nat) (row : List UInt8), vi = .int .i64 ((n : Int) - 1) ∧ Star w0 wr' (oB q (bytesV row) 5 :: (mk t' ++ ps)) ∧ Hid (NextI c len k n m row)) (fun vi _ => (intOf vi + 1).toNat)
    case atStart => exact ⟨len, k, x, rfl, S, HI0⟩
    case round =>
      clear S HI0
      obtain ⟨n, m, row, rfl, S, HI⟩ := hrel
      have hnl := HI.out.le
      have hrl := HI.out.len
      have HRL := Lib.hid hrl
      cases n with
      | zero =>
        have hst := HI.out.stop
        rw [← HWN.out] at hst
        have hR4 : (t', false) = R := by
          have h := HR3.out
          rw [List.drop_eq_nil_of_le (by rw [← HWN.out]; omega)] at h
          exact h
        subst hR4
        clear hrl hst
        have hm1 : ((0 : Nat) : Int) - 1 = -1 := by omega
        rw [hm1]
        clear hm1
        go_wp2
        go_ret
        exact ⟨rfl, S.tl⟩
      | succ n =>
        have hn1 : ((n + 1 : Nat) : Int) - 1 = (n : Int) := by omega
        rw [hn1]
        clear hn1
        have hat := HI.out.at
        obtain ⟨d, hd⟩ : ∃ d, d = m % c := ⟨_, rfl⟩
        have hdc : d < c := by rw [hd]; exact Nat.mod_lt m hc.1
        rw [← hd] at hat
        have hbn : (UInt8.ofNat (97 + d)).toNat = 97 + d := by rw [UInt8.toNat_ofNat']; exact Nat.mod_eq_of_lt (by omega)
        have hnr : n < row.length := (List.getElem?_eq_some_iff.1 hat).1
        have xc : wr.cell? ⟨q, n, none⟩ = some (.int .u8 (97 + (d : Int))) := (S.blk 0 rfl).cell n (by unfold bytesV; rw [List.getElem?_map, hat]; show some (Value.int .u8 (((UInt8.ofNat (97 + d)).toNat : Nat) : Int)) = _; rw [hbn]; rfl)
        have xf := (S.blk 0 rfl).free
        have i1 : (0 : Int) ≤ (n : Int) := by omega
        have i2 : (n : Int) < (len : Int) := by omega
        have wc : IntKind.i64.wrap ((c : Int) - 1) = (c : Int) - 1 := IntWalk.i64_in _ ⟨by omega, by omega⟩
        have HLO := Lib.hid (letterOf_r d (97 + (d : Int)) wr rfl (by omega))
        have HD := Lib.hid hd
        clear hat hnr hrl hd
        by_cases hdl : d = c - 1
        · have tA : ((d : Int) == (c : Int) - 1) = true := by
            have : (d : Int) = (c : Int) - 1 := by omega
            rw [this]; exact beq_self_eq_true _
          have wn : IntKind.i64.wrap ((n : Int) - 1) = (n : Int) - 1 := IntWalk.i64_in _ ⟨by omega, by omega⟩
          have HIB := Lib.hid (HI.out.back hc.1 (by rw [← HD.out]; exact hdl))
          clear hdl
          go_wp2_with fail
          refine HLO.out.mono ?_
          rintro e w5 ⟨rfl, rfl⟩
          go_wp2
          go_roundw
          case rel => exact ⟨n, m / c, row.set n 97, rfl, by rw [← bytesV_set]; exact S.set n _, HIB⟩
          case measure => simp [intOf] <;> omega
        · have tA : ((d : Int) == (c : Int) - 1) = false := by
            have : ¬ (d : Int) = (c : Int) - 1 := by omega
            simpa using this
          have wu : IntKind.u8.wrap (97 + (d : Int) + 1) = 97 + (d : Int) + 1 := IntWalk.u8_in _ ⟨by omega, by omega⟩
          obtain ⟨hi1, hi2⟩ := HI.out.inc hc.1 (by rw [← HD.out]; exact hdl)
          rw [← HD.out] at hi1
          have HI1 := Lib.hid hi1
          rw [← HWN.out] at hi2
          have hb2 : (UInt8.ofNat (97 + (d + 1))).toNat = 97 + (d + 1) := by rw [UInt8.toNat_ofNat']; exact Nat.mod_eq_of_lt (by omega)
          have HB2 := Lib.hid hb2
          clear hdl hi1 hb2
          go_wp2_with fail
          refine HLO.out.mono ?_
          rintro e w5 ⟨rfl, rfl⟩
          go_wp2
          go_roundw
          case rel => exact ⟨k + 1, t', hi2, by rw [← HI1.out, ← bytesV_set, HB2.out]; exact S.set n _, HR3⟩
          case measure =>
            have hv : Value.int .u8 (97 + (d : Int) + 1) = .int .u8 ((97 + (d + 1) : Nat) : Int) := by congr 1
            have hrow : (bytesV row).set n (.int .u8 (97 + (d : Int) + 1)) = bytesV (digs c len (k + 1)) := by rw [hv, ← HB2.out, bytesV_set, HI1.out]
            have hS := (S.set n (.int .u8 (97 + (d : Int) + 1))).blk 0 rfl
            rw [hrow] at hS
            have h2 : numV c (rowAt (wr.setCell ⟨q, n, none⟩ (.int .u8 (97 + (d : Int) + 1))) q) = k + 1 := by
              unfold Blk at hS
              unfold rowAt
              rw [hS]
              exact numV_digs hc len (k + 1) (by rw [← HWN.out]; exact hi2)
            show WN - numV c (rowAt (wr.setCell ⟨q, n, none⟩ (.int .u8 (97 + (d : Int) + 1))) q) < WN - numV c (rowAt _ q)
            rw [h2, HNUM.out]
            omega

end Go.Proofs.YtjochoghmpcgdaaDoor

/-
  What a run of a turner hands back.
-/
namespace Go.Proofs.YtjochoghmpcgdaaDoor
open Go.RowKit

def slLen : Value → Nat
  | .slice _ n _ => n
  | _ => 0

theorem Star.slen {w0 w : World} {ps : List Ob} (S : Star w0 w ps) (n : Nat) {α : Type} {E : Enc α} {ty : TypeId} {v : Value} {l : List α} (h : ps[n]? = some (oE (sliceE E ty) [v] l)) : ∃ a c, v = .slice a l.length c := by
  obtain ⟨a, cap, hv, -⟩ := S.rd n h
  exact ⟨a, cap, by simpa using hv⟩

/-- A run handed back: the places in new memory, the verdict, some number. -/
def RunIs (R : List Pl × Int) (w : World) (e : Ending) (w' : World) : Prop :=
  ∃ (v : Value) (f : List Nat) (i : Int), e = .returned (.tuple #[v, .int .i64 R.2, .int .i64 i]) ∧ plsE.ow w' [v] R.1 f ∧ f.Nodup ∧ (∀ b, b ∈ f → w.heap.size ≤ b) ∧ Below w.heap.size w w'

theorem Star.run {w0 w : World} {ps : List Ob} {v : Value} {l : List Pl} {x i : Int} (S : Star w0 w (oE plsE [v] l :: ps)) : RunIs (l, x) w0 (.returned (.tuple #[v, .int .i64 x, .int .i64 i])) w := by
  obtain ⟨B, fp, hh, -⟩ := S
  obtain ⟨h1, h2, h3⟩ := hh 0 _ rfl
  exact ⟨v, fp 0, i, rfl, h1, h2, fun b hb => (h3 b hb).1, B⟩

end Go.Proofs.YtjochoghmpcgdaaDoor

/-
  The program's run of a turner on a word.
-/
namespace Go.Proofs.YtjochoghmpcgdaaDoor
open Go.RowKit

set_option maxHeartbeats 16000000 in
set_option maxRecDepth 100000 in
theorem run_any (t : Turner) (X : ByteArray) (R : List Pl × Int) (ta tp tc : Nat) (w : World) (h : RdT t w ta tp tc) (hx : wordOk t.letters.toNat X.data.toList) (hX : X.size ≤ 1000) (hR : runT t X.data.toList = R) :
    Calls Tryd.prog 50 #[.agg #[.int .i64 t.letters, .int .i64 t.start, .slice (some ⟨ta, tp, none⟩) t.moves.length tc], .string X] w (RunIs R w) := by
  have K := h.ok
  have hl : X.data.toList.length = X.size := by rw [Array.length_toList]; rfl
  obtain ⟨n, hn⟩ : ∃ n, n = t.moves.length := ⟨_, rfl⟩
  obtain ⟨m, hm⟩ : ∃ m, m = X.data.toList.length + 2 := ⟨_, rfl⟩
  have hn12 : n ≤ 12 := by rw [hn]; exact K.n12
  have hm1 : m ≤ 1002 := by omega
  have hnm : n * m ≤ 12 * 1002 := Nat.mul_le_mul hn12 hm1
  obtain ⟨st, hst⟩ : ∃ s : Nat, t.start = s := ⟨t.start.toNat, by have := K.s0; omega⟩
  have hstn : st < n := by have := K.s1; omega
  have hR2 : runGo t X.data.toList (n * m + 1) [] (st, 0) = R := by
    rw [← hR]; unfold runT placesN; rw [hst, hn, hm]; rfl
  have HG0 := Lib.hid hR2
  have HH := Lib.hid h; have HK := Lib.hid K; have HN := Lib.hid hn; have HM := Lib.hid hm; have HX := Lib.hid hx; have HST := Lib.hid hst
  rw [hst]
  clear hR hR2 hl hst K h hx
  have hst6 : st < 1000000 := by omega
  have S := ((((Star.nil w).alloc (cs := #[.int .i64 t.letters, .int .i64 (st : Nat), .slice (some ⟨ta, tp, none⟩) t.moves.length tc]) (ty := 27)).alloc (cs := #[]) (ty := 96)).lit0 (E := plE)).allocMet.alloc (cs := #[.int .i64 (st : Nat), .int .i64 0]) (ty := 96)
  replace S := S.sel [2, 1, 0, 3]
  have hmm := @run_makeMap Tryd.prog
  rw [World.size_alloc, World.size_alloc, World.size_alloc] at S
  go_enter Tryd.func50, Tryd.ntmps50
  go_wp2_with fail
  generalize hW : (((w.alloc _).alloc _).alloc _).alloc _ = w0 at S ⊢
  obtain ⟨g2, hg2⟩ : ∃ g, g = w.heap.size := ⟨_, rfl⟩
  rw [← hg2] at S ⊢
  obtain ⟨g7, hg7⟩ : ∃ g, g = g2 + 1 := ⟨_, rfl⟩
  rw [← hg7] at S ⊢
  obtain ⟨gm, hgm⟩ : ∃ g, g = g7 + 1 := ⟨_, rfl⟩
  rw [← hgm] at S ⊢
  obtain ⟨g9, hg9⟩ : ∃ g, g = gm + 1 := ⟨_, rfl⟩
  rw [← hg9] at S ⊢
  clear hW hg2 hg7 hgm hg9 hmm
  have HI0 : Hid (InvR n m []) := Lib.hid ⟨fun p hp => (by cases hp), List.nodup_nil⟩
  go_loopw [7] (fun vl wr => ∃ (v : Value) (out : List Pl) (p q : Nat), vl = v ∧ Star w wr [oE plsE [v] out, oMet gm out, oB g9 [.int .i64 (p : Nat), .int .i64 (q : Nat)] 96, oB g2 [.int .i64 t.letters, .int .i64 (st : Nat), .slice (some ⟨ta, tp, none⟩) t.moves.length tc] 27] ∧ Hid (runGo t X.data.toList (n * m + 1 - out.length) out (p, q) = R) ∧ Hid (InvR n m out) ∧ p < n ∧ q < m) (fun vl _ => n * m + 1 - slLen vl)
  case atStart => exact ⟨_, [], st, 0, rfl, S, HG0, HI0, hstn, by omega⟩
  case round =>
    clear S HG0 HI0
    obtain ⟨v, out, p, q, rfl, S, HG, HI, hp, hq⟩ := hrel
    obtain ⟨va, vc, rfl⟩ := S.slen 0 rfl
    have hlen := HI.out.len
    have hp6 : p < 1000000 := by omega
    have hq6 : q < 1000000 := by omega
    have hll : out.length < 1000000000000 := by omega
    have hll2 : out.length ≤ 1000000000000 := by omega
    have e0 := (S.blk 2 rfl).cell 0 rfl
    have e1 := (S.blk 2 rfl).cell 1 rfl
    have hG2 : (if out.contains (p, q) then (out, 3) else
      if (moveAt t X.data.toList (p, q)).to < 0 then (out ++ [(p, q)], if (moveAt t X.data.toList (p, q)).to = -1 then 1 else 2)
      else runGo t X.data.toList (n * m - out.length) (out ++ [(p, q)]) ((moveAt t X.data.toList (p, q)).to.toNat, ((q : Int) + (moveAt t X.data.toList (p, q)).dir).toNat)) = R := by
      have h := HG.out
      rw [show n * m + 1 - out.length = (n * m - out.length) + 1 from by omega, runGo] at h
      exact h
    have HG2 := Lib.hid hG2
    clear hG2 HG
    cases hmet : out.contains (p, q)
    case true =>
      have hR : R = (out, 3) := by rw [← HG2.out, hmet]; rfl
      have HMET := Lib.hid hmet
      clear hmet HG2
      go_wp2_with (at_lookup; refine stp_look S 1 rfl rfl rfl rfl rfl hp6 hq6 ?_; intro c; rw [HMET.out])
      subst hR
      go_ret3
      exact S.run
    have hR : (if (moveAt t X.data.toList (p, q)).to < 0 then (out ++ [(p, q)], if (moveAt t X.data.toList (p, q)).to = -1 then 1 else 2)
      else runGo t X.data.toList (n * m - out.length) (out ++ [(p, q)]) ((moveAt t X.data.toList (p, q)).to.toNat, ((q : Int) + (moveAt t X.data.toList (p, q)).dir).toNat)) = R := by rw [← HG2.out, hmet]; rfl
    have HR := Lib.hid hR
    have HI2 := Lib.hid (HI.out.snoc (p := (p, q)) ⟨hp, hq⟩ hmet)
    have HMET := Lib.hid hmet
    clear hmet HG2 hR
    have hlen2 := HI2.out.len
    rw [List.length_append, List.length_singleton] at hlen2
    have HLL : Hid ((out ++ [(p, q)]).length = out.length + 1) := Lib.hid (by rw [List.length_append, List.length_singleton])
    have SP := S.sel [1, 0, 2, 3]
    go_wp2_with (first
      | (at_builtin
         refine st1_PlS SC rfl rfl rfl rfl cell_a1 (one_mem2 rfl rfl) hll2 ?_
         intro ja jn jc w9 S9
         obtain ⟨ka, kc, hv⟩ := S9.slen 0 rfl
         simp only [Value.slice.injEq] at hv
         obtain ⟨rfl, rfl, rfl⟩ := hv
         rw [HLL.out] at S9 ⊢
         have y0 := (S9.blk 2 rfl).cell 0 rfl
         have y1 := (S9.blk 2 rfl).cell 1 rfl
         have d0 := (S9.blk 3 rfl).cell 0 rfl
         have d1 := (S9.blk 3 rfl).cell 1 rfl
         have d2 := (S9.blk 3 rfl).cell 2 rfl)
      | (at_mapUpdate
         refine stp_put (n := out.length) SP rfl rfl rfl rfl rfl hp6 hq6 hll hll ?_
         intro w7 S7
         have x0 := (S7.blk 2 rfl).cell 0 rfl
         have x1 := (S7.blk 2 rfl).cell 1 rfl
         have SC := ((S7.alloc (cs := #[.int .i64 (p : Nat), .int .i64 (q : Nat)]) (ty := 96)).flat (ow_pl (x := (p, q)) hp6 hq6 _)).sel [3, 0, 2, 4, 5])
      | (at_lookup
         refine stp_look S 1 rfl rfl rfl rfl rfl hp6 hq6 ?_
         intro c
         rw [HMET.out]))
    have hRD := HH.out.of (S9.below.mono (Nat.le_refl _))
    have hma := move_any t X (p, q) ta tp tc w9 hRD HX.out hX (by rw [← HN.out]; exact hp) (by show q < 100000; omega)
    rw [HST.out] at hma
    refine hma.mono ?_
    clear hma
    rintro e w10 ⟨rfl, b10⟩
    obtain ⟨mv, hmv⟩ : ∃ m, m = moveAt t X.data.toList (p, q) := ⟨_, rfl⟩
    have HMV := Lib.hid hmv
    have hR2 := HR.out
    rw [← hmv] at hR2 ⊢
    have HR2 := Lib.hid hR2
    replace S9 := S9.step b10
    clear HR hR2 hmv b10 hRD y0 y1 d0 d1 d2
    replace S9 := S9.alloc (cs := #[.int .i64 mv.to, .int .i64 mv.dir]) (ty := 80)
    go_wp2_with fail
    generalize hW : w10.alloc _ = w11 at S9 ⊢
    obtain ⟨g12, hg12⟩ : ∃ g, g = w10.heap.size := ⟨_, rfl⟩
    rw [← hg12] at S9 ⊢
    clear hW hg12
    refine (stops_any mv w11).mono ?_
    rintro e w12 ⟨rfl, b12⟩
    replace S9 := S9.step b12
    clear b12
    have z0 := (S9.blk 0 rfl).cell 0 rfl
    have z1 := (S9.blk 0 rfl).cell 1 rfl
    by_cases hto : mv.to < 0
    case pos =>
      have hd : decide (mv.to < 0) = true := by simpa using hto
      have hR3 : R = (out ++ [(p, q)], if mv.to = -1 then 1 else 2) := by have h := HR2.out; rw [if_pos hto] at h; exact h.symm
      have hvs := verdictOfStop_any mv w12
      generalize (if mv.to = -1 then (1 : Int) else 2) = vd at hvs hR3
      have HR3 := Lib.hid hR3
      rw [hd]
      clear hR3 HR2 hd hto
      go_wp2_with fail
      refine hvs.mono ?_
      rintro e w13 ⟨rfl, b13⟩
      replace S9 := S9.step b13
      clear b13 z0 z1 hvs
      go_wp2
      have hR := HR3.out
      subst hR
      go_ret3
      exact (S9.sel [1, 0]).run
    have hd : decide (mv.to < 0) = false := by simpa using hto
    have hR3 : runGo t X.data.toList (n * m - out.length) (out ++ [(p, q)]) (mv.to.toNat, ((q : Int) + mv.dir).toNat) = R := by have h := HR2.out; rw [if_neg hto] at h; exact h
    have HR3 := Lib.hid hR3
    rw [hd]
    have hnx := move_next HK.out HX.out (p := (p, q)) ⟨by rw [← HN.out]; exact hp, by rw [← HM.out]; exact hq⟩ (by rw [← HMV.out]; exact hto)
    rw [← HMV.out, ← HN.out, ← HM.out] at hnx
    obtain ⟨⟨hn1, hn2⟩, hn3⟩ := hnx
    obtain ⟨p', hp'⟩ : ∃ k : Nat, mv.to = k := ⟨mv.to.toNat, by omega⟩
    obtain ⟨q', hq'⟩ : ∃ k : Nat, (q : Int) + mv.dir = k := ⟨((q : Int) + mv.dir).toNat, by simp only at hn3; omega⟩
    simp only at hn1 hn2 hn3
    rw [hp', hq'] at HR3
    rw [hp'] at hn1
    rw [hq'] at hn2
    rw [Int.toNat_natCast] at hn1 hn2
    rw [Int.toNat_natCast, Int.toNat_natCast] at HR3
    have hdir : mv.dir = (q' : Int) - q := by omega
    have wa : IntKind.i64.wrap ((q : Int) + mv.dir) = (q' : Int) := by rw [hq']; exact IntWalk.i64_in _ ⟨by omega, by omega⟩
    rw [hp'] at z0
    have x0 := (S9.blk 3 rfl).cell 0 rfl
    have x1 := (S9.blk 3 rfl).cell 1 rfl
    have xf := (S9.blk 3 rfl).free
    clear hR3 HR2 hd hto hn3 hp' hdir hq'
    go_wp2
    go_roundw
    case rel => exact ⟨_, out ++ [(p, q)], p', q', rfl, (((S9.sel [3, 1, 2, 4]).set 0 _).set 1 _).sel [1, 2, 0, 3], Lib.hid (by rw [HLL.out, show n * m + 1 - (out.length + 1) = n * m - out.length from by omega]; exact HR3.out), HI2, hn1, hn2⟩
    case measure => simp [slLen]; omega

end Go.Proofs.YtjochoghmpcgdaaDoor

/-
  What the program's writer writes on a word.
-/
namespace Go.Proofs.YtjochoghmpcgdaaDoor
open Go.RowKit

theorem toList_cat (a b : ByteArray) : (a ++ b).data.toList = a.data.toList ++ b.data.toList := by
  rw [ByteArray.data_append, Array.toList_append]

theorem flat_int : ∀ w cs x f, intE.ow w cs x f → f = [] := fun _ _ _ _ h => h.2

theorem far4 {g g' : Nat} {cs cs' : List Value} {v v' : Value} {M : List Int} {L : List Pl} : ∀ P, P ∈ [oB g cs 96, oE (sliceE intE 2) [v] M, oE plsE [v'] L, oB g' cs' 30] → P.Far := by
  intro P hP
  simp only [List.mem_cons, List.not_mem_nil, or_false] at hP
  rcases hP with rfl | rfl | rfl | rfl
  · exact far_oB (by decide) (by decide)
  · exact far_flat flat_int (by decide) (by decide)
  · exact far_flat flat_pl (by decide) (by decide)
  · exact far_oB (by decide) (by decide)

set_option maxHeartbeats 8000000 in
set_option maxRecDepth 100000 in
theorem written_any (W : Writer) (X : ByteArray) (T : ByteArray × Int) (ta tp tc oa op oc : Nat) (w : World) (h : RdT W.turner w ta tp tc) (ho : RdO W w oa op oc) (hx : wordOk W.turner.letters.toNat X.data.toList) (hX : X.size ≤ 1000) (hT : writtenT W X.data.toList = T) :
    Calls Tryd.prog 25 #[.agg #[.int .i64 W.turner.letters, .int .i64 W.turner.start, .slice (some ⟨ta, tp, none⟩) W.turner.moves.length tc, .slice (some ⟨oa, op, none⟩) W.turner.moves.length oc], .string X] w (WrIs T w) := by
  have K := ho.ok
  have hinv := runT_inv K.t hx
  obtain ⟨⟨L, vd⟩, hR⟩ : ∃ R, R = runT W.turner X.data.toList := ⟨_, rfl⟩
  obtain ⟨c, hc⟩ : ∃ c : Nat, W.turner.letters = c := ⟨W.turner.letters.toNat, by have := K.t.l1; omega⟩
  have hcn : W.turner.letters.toNat = c := by omega
  have hc3 : c ≤ 3 := by have := K.t.l3; omega
  obtain ⟨st, hst⟩ : ∃ s, s = W.turner.start := ⟨_, rfl⟩
  obtain ⟨n, hn⟩ : ∃ n, n = W.turner.moves.length := ⟨_, rfl⟩
  have hrun := fun w' (hb : Below w.heap.size w w') => run_any W.turner X (L, vd) ta tp tc w' (h.of hb) hx hX hR.symm
  rw [hc, ← hst, ← hn] at hrun
  have HRUN := Lib.hid hrun
  rw [← hR] at hinv
  unfold writtenT at hT
  rw [← hR] at hT
  simp only at hT hinv
  have hll := hinv.len
  have hxl : X.data.toList.length = X.size := by rw [Array.length_toList]; rfl
  have hnm : W.turner.moves.length * (X.data.toList.length + 2) ≤ 12 * 1002 := Nat.mul_le_mul K.t.n12 (by omega)
  have hL : L.length ≤ 12024 := by omega
  have hn12 : n ≤ 12 := by rw [hn]; exact K.t.n12
  rw [hc, ← hst, ← hn]
  rw [hcn] at hx
  have HO := Lib.hid ho; have HK := Lib.hid K; have HX := Lib.hid hx; have HI := Lib.hid hinv; have HC := Lib.hid hcn; have HN := Lib.hid hn
  clear hR h ho K hx hinv hll hnm hxl hrun hc hcn hst hn
  have S := (Star.nil w).alloc (cs := #[.int .i64 (c : Nat), .int .i64 st, .slice (some ⟨ta, tp, none⟩) n tc, .slice (some ⟨oa, op, none⟩) n oc]) (ty := 30)
  go_enter Tryd.func25, Tryd.ntmps25
  go_wp2_with fail
  generalize hW : w.alloc _ = w0 at S ⊢
  obtain ⟨g2, hg2⟩ : ∃ g, g = w.heap.size := ⟨_, rfl⟩
  rw [← hg2] at S ⊢
  clear hW hg2
  refine (HRUN.out w0 (S.below.mono (Nat.le_refl _))).mono ?_
  rintro e w1 ⟨v, f, i, rfl, o1, o2, o3, o4⟩
  replace S := S.made o1 o2 o3 o4
  clear o1 o2 o3 o4 HRUN
  obtain ⟨sa, sc, rfl⟩ := S.slen 0 rfl
  by_cases hv : vd = 1
  case neg =>
    have tA : (vd != 1) = true := by simpa using hv
    rw [if_neg hv] at hT
    subst hT
    clear hv
    go_wp2
    go_ret3
    exact ⟨_, rfl, S.below⟩
  have tA : (vd != 1) = false := by simpa using hv
  rw [if_pos hv] at hT
  clear hv
  have HT := Lib.hid hT
  clear hT
  have S0 := ((S.bldNew.alloc (cs := #[]) (ty := 2)).lit0 (E := intE)).sel [1, 0, 2, 3]
  rw [World.size_alloc] at S0
  go_wp2
  generalize hW : (w1.alloc _).alloc _ = w2 at S0 ⊢
  obtain ⟨gb, hgb⟩ : ∃ g, g = w1.heap.size := ⟨_, rfl⟩
  rw [← hgb] at S0 ⊢
  clear hW hgb S
  go_loopw [11, 28] (fun vp vk wr => ∃ (k : Nat) (v5 : Value) (bl : List UInt8) (M : List Int), k ≤ L.length ∧ vp = v5 ∧ vk = .int .i64 k ∧ Star w wr [oBld gb bl, oE (sliceE intE 2) [v5] M, oE plsE [.slice sa L.length sc] L, oB g2 [.int .i64 (c : Nat), .int .i64 st, .slice (some ⟨ta, tp, none⟩) n tc, .slice (some ⟨oa, op, none⟩) n oc] 30] ∧ Hid (bl = (textOf W X.data.toList (L.take k)).data.toList) ∧ bl.length ≤ 3 * k ∧ M.length = bl.length) (fun _ vk _ => L.length - (intOf vk).toNat)
  case atStart => exact ⟨0, _, [], [], Nat.zero_le _, rfl, rfl, S0, Lib.hid rfl, Nat.le_refl _, rfl⟩
  case round =>
    clear S0
    obtain ⟨k, v5, bl, M, hk, rfl, rfl, S, HTX, hsz, hML⟩ := hrel
    by_cases hkl : k < L.length
    case neg =>
      have hkL : k = L.length := by omega
      have hTx : bl = (textOf W X.data.toList L).data.toList := by rw [HTX.out, hkL, List.take_length]
      have hT2 := HT.out
      have hsz2 : (textOf W X.data.toList L).size = bl.length := by rw [hTx, Array.length_toList]; rfl
      have htx2 : textOf W X.data.toList L = ⟨bl.toArray⟩ := by rw [hTx]
      rw [hsz2, htx2] at hT2
      clear hTx HTX hkL hsz2 htx2 HT
      have HLEN := Lib.hid S.blen
      go_wp2_with fail
      refine HLEN.out.mono ?_
      rintro e w3 ⟨rfl, rfl⟩
      by_cases hb : 2000 < bl.length
      · rw [if_pos hb] at hT2
        subst hT2
        have hb2 : (2000 : Int) < (bl.length : Int) := by omega
        go_wp2
        go_ret3
        exact ⟨_, rfl, S.below⟩
      · rw [if_neg hb] at hT2
        subst hT2
        have hb2 : ¬ (2000 : Int) < (bl.length : Int) := by omega
        have HSTR := Lib.hid S.bstr
        go_wp2_with fail
        refine HSTR.out.mono ?_
        rintro e w4 ⟨rfl, b4⟩
        go_wp2
        go_ret3
        exact ⟨_, rfl, b4⟩
    obtain ⟨b, o, cap, hv, q1, q2, q3⟩ := S.pls 2 rfl (Nat.lt_of_le_of_lt (Nat.zero_le _) hkl)
    simp only [Value.slice.injEq] at hv
    obtain ⟨rfl, -, rfl⟩ := hv
    obtain ⟨⟨p1, p2⟩, hpe⟩ : ∃ p, p = L[k] := ⟨_, rfl⟩
    have hge : L[k]? = some (p1, p2) := by rw [hpe]; exact List.getElem?_eq_getElem hkl
    obtain ⟨x0, x1⟩ := q3 k _ hge
    have hplt := HI.out.lt (p1, p2) (List.mem_of_getElem? hge)
    obtain ⟨hp1, hp2⟩ := hplt
    simp only at hp1 hp2 x0 x1
    have hsn := textOf_snoc W X.data.toList L k _ hge
    have hos := outAt_size HK.out X.data.toList (p1, p2)
    have K := HK.out.t
    have hbl := belowN_lt (c := W.turner.letters.toNat) (by rw [HC.out]; exact HX.out) p2
    have hoe : outAt W X.data.toList (p1, p2) = (W.out[p1]?.getD default)[belowN W.turner.letters.toNat X.data.toList p2]?.getD ByteArray.empty := rfl
    obtain ⟨oT, hoT⟩ : ∃ z, z = outAt W X.data.toList (p1, p2) := ⟨_, rfl⟩
    rw [← hoT] at hsn hos hoe
    have hbn : bl ++ oT.data.toList = (textOf W X.data.toList (L.take (k + 1))).data.toList := by rw [hsn, toList_cat, HTX.out]
    have HBN := Lib.hid hbn
    have hO := HO.out.of (S.below.mono (Nat.le_refl _))
    obtain ⟨rb, ro, rc, k1, k2, k3, k4⟩ := hO.rows p1 hp1
    obtain ⟨y, hy⟩ : ∃ y, y = belowN W.turner.letters.toNat X.data.toList p2 := ⟨_, rfl⟩
    rw [← hy] at hbl hoe
    have z0 := (k4 y hbl).1
    rw [← hoe] at z0
    have hcap := hO.cap
    rw [HC.out] at hbl k1 k2 hy
    have hxl : X.data.toList.length = X.size := by rw [Array.length_toList]; rfl
    have HB := Lib.hid (show ∀ w', Calls Tryd.prog 51 #[.int .i64 (c : Nat), .string X, .int .i64 (p2 : Nat)] w' (Gives (.int .i64 (y : Nat)) w') from fun w' => (below_k c hc3 X HX.out hX p2 w').mono (by rintro e w2 ⟨rfl, rfl⟩; exact ⟨by rw [hy], Below.refl _ _⟩))
    rw [← HN.out] at hp1 hcap
    have i1 : (0 : Int) ≤ (k : Int) := by omega
    have i2 : (k : Int) < (L.length : Int) := by omega
    have j1 : (0 : Int) ≤ (p1 : Int) := by omega
    have j2 : (p1 : Int) < (n : Int) := by omega
    have j3 : (0 : Int) ≤ (y : Int) := by omega
    have j4 : (y : Int) < ((c + 2 : Nat) : Int) := by omega
    have hod : oT.data.toList.length = oT.size := by rw [Array.length_toList]; rfl
    have HGE := Lib.hid hge
    clear hpe hge hsn hoe hO hy k4 K HTX q3 hoT hbn
    replace S := S.alloc (cs := #[.int .i64 (p1 : Nat), .int .i64 (p2 : Nat)]) (ty := 96)
    have S4 := (Star.nil wr).alloc (cs := #[.int .i64 (p1 : Nat), .int .i64 (p2 : Nat)]) (ty := 96)
    go_upto_region 9 with fail
    generalize hW : wr.alloc _ = w3 at S S4 ⊢
    obtain ⟨gp, hgp⟩ : ∃ g, g = wr.heap.size := ⟨_, rfl⟩
    rw [← hgp] at S S4 ⊢
    clear hW hgp
    refine wp_region_m 16 (by kernel_rfl) rfl ?_
    intro w4 b4
    replace S4 := S4.step b4
    replace S := S.step b4
    have BW := S4.below
    clear x0 x1
    replace k1 := (BW.cell (World.block_lt_of_cell? wr _ k1)).trans k1
    replace z0 := (BW.cell (World.block_lt_of_cell? wr _ z0)).trans z0
    have x0 := (S.blk 0 rfl).cell 0 rfl
    have x1 := (S.blk 0 rfl).cell 1 rfl
    have c0 := (S.blk 4 rfl).cell 0 rfl
    have c3 := (S.blk 4 rfl).cell 3 rfl
    have gl1 := (S.blk 0 rfl).lt
    have gl2 := (S.blk 4 rfl).lt
    have gl3 := World.block_lt_of_cell? w4 _ k1
    have gl4 := World.block_lt_of_cell? w4 _ z0
    have hov := cell_over w4
    clear b4
    refine wpM_read 0 rfl rfl (by kernel_rfl) (fun _ d _ _ _ h => by cases d <;> exact h) ?_
    go_big_quiet_step (fail)
    refine wpQuiet_nil ?_
    refine wpM_read 1 rfl rfl (by kernel_rfl) (fun _ d _ _ _ h => by cases d <;> exact h) ?_
    go_big_quiet_step (fail)
    refine wpQuiet_nil ?_
    refine wpM_read 2 rfl rfl (by kernel_rfl) (fun _ d _ _ _ h => by cases d <;> exact h) ?_
    go_big_quiet_step (fail)
    refine wpQuiet_nil ?_
    refine wpM_read 3 rfl rfl (by kernel_rfl) (fun _ d _ _ _ h => by cases d <;> exact h) ?_
    go_big_quiet_step (fail)
    refine wpQuiet_nil ?_
    refine wpM_read 4 rfl rfl (by kernel_rfl) (fun _ d _ _ _ h => by cases d <;> exact h) ?_
    go_big_quiet_step (fail)
    refine wpQuiet_nil ?_
    refine wpM_read 5 rfl rfl (by kernel_rfl) (fun _ d _ _ _ h => by cases d <;> exact h) ?_
    go_big_quiet_step (fail)
    refine wpQuiet_nil ?_
    refine wpM_read 6 rfl rfl (by kernel_rfl) (fun _ d _ _ _ h => by cases d <;> exact h) ?_
    go_big_quiet_step (fail)
    refine wpQuiet_nil ?_
    refine wpM_read 7 rfl rfl (by kernel_rfl) (fun _ d _ _ _ h => by cases d <;> exact h) ?_
    go_big_quiet_step (fail)
    refine wpQuiet_nil ?_
    refine wpM_read 8 rfl rfl (by kernel_rfl) (fun _ d _ _ _ h => by cases d <;> exact h) ?_
    go_big_quiet_step (fail)
    refine wpQuiet_nil ?_
    refine wpM_read 9 rfl rfl (by kernel_rfl) (fun _ d _ _ _ h => by cases d <;> exact h) ?_
    go_big_quiet_step (fail)
    refine wpQuiet_nil ?_
    refine wpM_read 10 rfl rfl (by kernel_rfl) (fun _ d _ _ _ h => by cases d <;> exact h) ?_
    go_big_quiet_step (fail)
    refine wpQuiet_nil ?_
    refine wpM_read 11 rfl rfl (by kernel_rfl) (fun _ d _ _ _ h => by cases d <;> exact h) ?_
    go_big_quiet_step (fail)
    refine wpQuiet_nil ?_
    refine wpM_call 12 51 #[.int .i64 (c : Nat), .string X, .int .i64 (p2 : Nat)] (.int .i64 (y : Nat)) rfl (by kernel_rfl) (fun _ d _ _ _ h => by cases d <;> exact h) rfl (fun x => by go_simp) (fun x _ => HB.out x) (fun K hK => ?_)
    go_simp
    refine hK _ ?_
    clear hK K
    refine wpM_read 13 rfl rfl (by kernel_rfl) (fun _ d _ _ _ h => by cases d <;> exact h) ?_
    go_big_quiet_step (fail)
    refine wpQuiet_nil ?_
    refine wpM_read 14 rfl rfl (by kernel_rfl) (fun _ d _ _ _ h => by cases d <;> exact h) ?_
    go_big_quiet_step (fail)
    refine wpQuiet_nil ?_
    refine wpM_read 15 rfl rfl (by kernel_rfl) (fun _ d _ _ _ h => by cases d <;> exact h) ?_
    go_big_quiet_step (fail)
    refine wpQuiet_nil ?_
    refine wpM_done (by kernel_rfl) (fun w6 b6 => ?_)
    replace S := S.step b6
    clear b6 x0 x1 c0 c3 k1 z0 gl1 gl2 gl3 gl4 hov BW S4 HB j1 j2 j3 j4
    have SW := S.sel [1, 0, 2, 3, 4]
    have HW := Lib.hid (SW.write far4 oT (by omega))
    go_wp2_with fail
    refine HW.out.mono ?_
    rintro e w7 ⟨rfl, S7⟩
    clear HW SW S
    go_wp2
    have hbs : (bl ++ oT.data.toList).length = bl.length + oT.size := by rw [List.length_append, hod]
    have HBS := Lib.hid hbs
    clear hbs
    go_loopw [11, 51] (fun vp vj wr => ∃ (j : Nat) (v5 : Value) (M : List Int), j ≤ oT.size ∧ vp = v5 ∧ vj = .int .i64 j ∧ Star w wr [oBld gb (bl ++ oT.data.toList), oB gp [.int .i64 (p1 : Nat), .int .i64 (p2 : Nat)] 96, oE (sliceE intE 2) [v5] M, oE plsE [.slice (some ⟨b, o, none⟩) L.length sc] L, oB g2 [.int .i64 (c : Nat), .int .i64 st, .slice (some ⟨ta, tp, none⟩) n tc, .slice (some ⟨oa, op, none⟩) n oc] 30] ∧ M.length = bl.length + j) (fun _ vj _ => oT.size - (intOf vj).toNat)
    case atStart => exact ⟨0, _, M, Nat.zero_le _, rfl, rfl, S7, hML⟩
    case round =>
      clear S7 hML
      obtain ⟨j, v6, M, hj, rfl, rfl, S, hML⟩ := hrel
      by_cases hjl : j < oT.size
      case neg =>
        have hjo : j = oT.size := by omega
        go_wp2
        go_roundw
        case rel => exact ⟨k + 1, _, bl ++ oT.data.toList, M, by omega, rfl, by go_num, S.sel [0, 2, 3, 4], HBN, by rw [HBS.out]; omega, by rw [HBS.out, hML, hjo]⟩
        case measure => simp [intOf]; omega
      have x1 := (S.blk 1 rfl).cell 1 rfl
      have hlm : M.length ≤ 1000000000000 := by omega
      have SB := ((S.alloc (cs := #[.int .i64 (p2 : Nat)]) (ty := 2)).int (x := (p2 : Nat)) ⟨by omega, by omega⟩).sel [4, 0, 2, 3, 5, 6]
      go_wp2_with (at_builtin; refine st1_Int64S SB rfl rfl rfl rfl cell_a1 (one_mem rfl) hlm ?_; intro ja jn jc w9 S9)
      go_roundw
      case rel => exact ⟨j + 1, _, _, by omega, rfl, by go_num, S9.sel [1, 2, 0, 3, 4], by rw [List.length_append, hML]; rfl⟩
      case measure => simp [intOf]; omega

end Go.Proofs.YtjochoghmpcgdaaDoor

/-
  The function that FirstOther hands to wordsOf.
-/
namespace Go.Proofs.YtjochoghmpcgdaaDoor
open Go.RowKit

def stepO (u v : Writer) (x : List UInt8) (s : Int × ByteArray) : (Int × ByteArray) × Bool :=
  if (writtenT u x).2 = 3 ∨ (writtenT v x).2 = 3 then ((3, s.2), true) else if writtenT u x ≠ writtenT v x then ((0, ⟨x.toArray⟩), true) else (s, false)

def mkO (gc gw : Nat) (s : Int × ByteArray) : List Ob := [oB gc [.int .i64 s.1] 2, oB gw [.string s.2] 9]

theorem bytes_neO {x y : ByteArray} (h : ¬ x = y) : (x.toList == y.toList) = false := by
  rw [beq_eq_false_iff_ne]
  intro e
  rw [ByteArray.toList_eq, ByteArray.toList_eq] at e
  apply h
  cases x; cases y
  congr 1
  exact Array.toList_inj.1 e

theorem written_p {W : Writer} {w : World} {g : Nat} (h : RdWP W w g) (X : ByteArray) (hx : wordOk W.turner.letters.toNat X.data.toList) (hX : X.size ≤ 1000) :
    ∃ ta tp tc oa op oc, w.cell? ⟨g, 0, none⟩ = some (.int .i64 W.turner.letters) ∧ w.cell? ⟨g, 1, none⟩ = some (.int .i64 W.turner.start) ∧ w.cell? ⟨g, 2, none⟩ = some (.slice (some ⟨ta, tp, none⟩) W.turner.moves.length tc) ∧ w.cell? ⟨g, 3, none⟩ = some (.slice (some ⟨oa, op, none⟩) W.turner.moves.length oc) ∧
      ∀ w', Below w.heap.size w w' → Calls Tryd.prog 25 #[.agg #[.int .i64 W.turner.letters, .int .i64 W.turner.start, .slice (some ⟨ta, tp, none⟩) W.turner.moves.length tc, .slice (some ⟨oa, op, none⟩) W.turner.moves.length oc], .string X] w' (WrIs (writtenT W X.data.toList) w') := by
  obtain ⟨ta, tp, tc, c0, c1, c2, hr⟩ := h.t.get
  obtain ⟨oa, op, oc, c3, ho⟩ := h.o
  exact ⟨ta, tp, tc, oa, op, oc, c0, c1, c2, c3, fun w' hb => written_any W X _ ta tp tc oa op oc w' (hr.of hb) (ho.of hb) hx hX rfl⟩

set_option maxHeartbeats 8000000 in
set_option maxRecDepth 100000 in
theorem firstC_any (u v : Writer) (ga gb gc gw : Nat) (w0 : World) (hu : RdWP u w0 ga) (hv : RdWP v w0 gb) (hc : v.turner.letters = u.turner.letters) (x : List UInt8) (hx : wordOk u.turner.letters.toNat x) (hxl : x.length ≤ 60) (s : Int × ByteArray) (ps : List Ob) (w : World) (S : Star w0 w (mkO gc gw s ++ ps)) :
    Calls Tryd.prog 24 #[.string ⟨x.toArray⟩, .pointer (some ⟨ga, 0, none⟩), .pointer (some ⟨gb, 0, none⟩), .pointer (some ⟨gc, 0, none⟩), .pointer (some ⟨gw, 0, none⟩)] w (fun e w' => e = .returned (.bool (stepO u v x s).2) ∧ Star w0 w' (mkO gc gw (stepO u v x s).1 ++ ps)) := by
  have hX : (⟨x.toArray⟩ : ByteArray).size ≤ 1000 := by show x.toArray.size ≤ 1000; rw [List.size_toArray]; omega
  have hB := S.below
  obtain ⟨ta, tp, tc, oa, op, oc, c0, c1, c2, c3, HU⟩ := written_p (hu.of hB) ⟨x.toArray⟩ hx hX
  obtain ⟨ta', tp', tc', oa', op', oc', d0, d1, d2, d3, HV⟩ := written_p (hv.of hB) ⟨x.toArray⟩ (by rw [hc]; exact hx) hX
  have hUU := Lib.hid HU
  have hVV := Lib.hid HV
  clear HU HV hu hv hX hx hB hc
  obtain ⟨X, hXe⟩ : ∃ X, X = (⟨x.toArray⟩ : ByteArray) := ⟨_, rfl⟩
  have hxx : x = X.data.toList := by rw [hXe]
  have hstep : stepO u v x s = (if (writtenT u X.data.toList).2 = 3 ∨ (writtenT v X.data.toList).2 = 3 then ((3, s.2), true) else if writtenT u X.data.toList ≠ writtenT v X.data.toList then ((0, X), true) else (s, false)) := by
    rw [← hxx, hXe]; rfl
  rw [hstep]
  rw [← hXe] at hUU hVV ⊢
  clear hstep hXe hxx
  obtain ⟨⟨tu, cu⟩, hwu⟩ : ∃ y, y = writtenT u X.data.toList := ⟨_, rfl⟩
  obtain ⟨⟨tv, cv⟩, hwv⟩ : ∃ y, y = writtenT v X.data.toList := ⟨_, rfl⟩
  rw [← hwu] at hUU
  rw [← hwv] at hVV
  rw [← hwu, ← hwv]
  simp only
  clear hwu hwv
  obtain ⟨s1, s2⟩ := s
  obtain ⟨Z, hZ⟩ : ∃ Z : (Int × ByteArray) × Bool, Z = (if cu = 3 ∨ cv = 3 then ((3, s2), true) else if (tu, cu) ≠ (tv, cv) then ((0, X), true) else ((s1, s2), false)) := ⟨_, rfl⟩
  rw [← hZ]
  have HZ := Lib.hid hZ
  clear hZ
  go_enter Tryd.func24, Tryd.ntmps24
  go_wp2_with fail
  refine (hUU.out w (Below.refl _ _)).mono ?_
  rintro e w2 ⟨r1, rfl, b1⟩
  replace S := S.step b1
  replace d0 := (b1.cell (World.block_lt_of_cell? w _ d0)).trans d0
  replace d1 := (b1.cell (World.block_lt_of_cell? w _ d1)).trans d1
  replace d2 := (b1.cell (World.block_lt_of_cell? w _ d2)).trans d2
  replace d3 := (b1.cell (World.block_lt_of_cell? w _ d3)).trans d3
  go_wp2_with fail
  refine (hVV.out w2 b1).mono ?_
  rintro e w3 ⟨r2, rfl, b2⟩
  replace S := S.step b2
  clear b1 b2 c0 c1 c2 c3 d0 d1 d2 d3 hUU hVV
  replace S : Star w0 w3 (oB gc [.int .i64 s1] 2 :: oB gw [.string s2] 9 :: ps) := S
  have x0 := (S.blk 0 rfl).cell 0 rfl
  have xf := (S.blk 0 rfl).free
  have y0 := (S.blk 1 rfl).cell 0 rfl
  have yf := (S.blk 1 rfl).free
  by_cases h1 : cu = 3
  · have hz : Z = ((3, s2), true) := HZ.out.trans (if_pos (.inl h1))
    subst hz
    subst h1
    clear HZ
    go_wp2
    go_ret
    exact ⟨rfl, S.set 0 (.int .i64 3)⟩
  have tA : (cu == 3) = false := by simpa using h1
  by_cases h2 : cv = 3
  · have hz : Z = ((3, s2), true) := HZ.out.trans (if_pos (.inr h2))
    subst hz
    subst h2
    clear h1 HZ
    go_wp2
    go_ret
    exact ⟨rfl, S.set 0 (.int .i64 3)⟩
  have tB : (cv == 3) = false := by simpa using h2
  have hz := HZ.out.trans (if_neg (fun h => h.elim h1 h2))
  have HZ2 := Lib.hid hz
  clear h1 h2 HZ hz
  have SW := ((Star.mid' (xs := [oB gc [.int .i64 s1] 2]) S).set 0 (.string X)).mid (xs := [oB gc [.int .i64 s1] 2])
  have hne : gc ≠ gw := by
    obtain ⟨B, fp, hh, d⟩ := S
    have e1 := (hh 0 _ rfl).1.2
    have e2 := (hh 1 _ rfl).1.2
    have h := d 0 1 (by omega) (by simp) (by simp)
    intro e
    rw [e1, e2, e] at h
    exact h gw (by simp) (by simp)
  by_cases h3 : cu = cv
  · subst h3
    have tC : (cu == cu) = true := by simp
    by_cases h4 : tu = tv
    · subst h4
      have hz : Z = ((s1, s2), false) := HZ2.out.trans (if_neg (fun h => h rfl))
      subst hz
      clear HZ2
      have tD : (tu.toList == tu.toList) = true := by simp
      clear SW
      go_wp2
      go_ret
      exact ⟨rfl, S⟩
    · have tD : (tu.toList == tv.toList) = false := bytes_neO h4
      have hz : Z = ((0, X), true) := HZ2.out.trans (if_pos (fun h => h4 (congrArg Prod.fst h)))
      subst hz
      clear HZ2
      have z0 := (SW.blk 0 rfl).cell 0 rfl
      have zf := (SW.blk 0 rfl).free
      go_wp2
      go_ret
      exact ⟨rfl, SW.set 0 (.int .i64 0)⟩
  · have tC : (cu != cv) = true := by simpa using h3
    have hz : Z = ((0, X), true) := HZ2.out.trans (if_pos (fun h => h3 (congrArg Prod.snd h)))
    subst hz
    clear HZ2
    have z0 := (SW.blk 0 rfl).cell 0 rfl
    have zf := (SW.blk 0 rfl).free
    clear h3
    go_wp2
    go_ret
    exact ⟨rfl, SW.set 0 (.int .i64 0)⟩

end Go.Proofs.YtjochoghmpcgdaaDoor

/-
  The function that LongestWritten hands to wordsOf.
-/
namespace Go.Proofs.YtjochoghmpcgdaaDoor
open Go.RowKit

def stepL (u : Writer) (x : List UInt8) (s : Bool × Int × ByteArray) : (Bool × Int × ByteArray) × Bool :=
  if (writtenT u x).2 = 3 then ((true, s.2), true) else if (writtenT u x).2 = 0 ∧ s.2.1 < ((writtenT u x).1.size : Int) then ((false, ((writtenT u x).1.size : Int), ⟨x.toArray⟩), false) else ((false, s.2), false)

def mkL (go gb gw : Nat) (s : Bool × Int × ByteArray) : List Ob := [oB go [.bool s.1] 4, oB gb [.int .i64 s.2.1] 3, oB gw [.string s.2.2] 9]

set_option maxHeartbeats 8000000 in
set_option maxRecDepth 100000 in
theorem longC_any (u : Writer) (ga go gb gw : Nat) (w0 : World) (hu : RdWP u w0 ga) (x : List UInt8) (hx : wordOk u.turner.letters.toNat x) (hxl : x.length ≤ 60) (s : Bool × Int × ByteArray) (ps : List Ob) (w : World) (S : Star w0 w (mkL go gb gw s ++ ps)) :
    Calls Tryd.prog 26 #[.string ⟨x.toArray⟩, .pointer (some ⟨ga, 0, none⟩), .pointer (some ⟨go, 0, none⟩), .pointer (some ⟨gb, 0, none⟩), .pointer (some ⟨gw, 0, none⟩)] w (fun e w' => e = .returned (.bool (stepL u x s).2) ∧ Star w0 w' (mkL go gb gw (stepL u x s).1 ++ ps)) := by
  have hX : (⟨x.toArray⟩ : ByteArray).size ≤ 1000 := by show x.toArray.size ≤ 1000; rw [List.size_toArray]; omega
  have hB := S.below
  obtain ⟨ta, tp, tc, oa, op, oc, c0, c1, c2, c3, HU⟩ := written_p (hu.of hB) ⟨x.toArray⟩ hx hX
  have hUU := Lib.hid HU
  clear HU hu hX hx hB
  obtain ⟨X, hXe⟩ : ∃ X, X = (⟨x.toArray⟩ : ByteArray) := ⟨_, rfl⟩
  have hxx : x = X.data.toList := by rw [hXe]
  obtain ⟨s1, s2, s3⟩ := s
  have hstep : stepL u x (s1, s2, s3) = (if (writtenT u X.data.toList).2 = 3 then ((true, s2, s3), true) else if (writtenT u X.data.toList).2 = 0 ∧ s2 < ((writtenT u X.data.toList).1.size : Int) then ((false, ((writtenT u X.data.toList).1.size : Int), X), false) else ((false, s2, s3), false)) := by
    rw [← hxx, hXe]; rfl
  rw [hstep]
  rw [← hXe] at hUU ⊢
  clear hstep hXe hxx
  obtain ⟨⟨tu, cu⟩, hwu⟩ : ∃ y, y = writtenT u X.data.toList := ⟨_, rfl⟩
  rw [← hwu] at hUU
  rw [← hwu]
  simp only
  clear hwu
  obtain ⟨Z, hZ⟩ : ∃ Z : (Bool × Int × ByteArray) × Bool, Z = (if cu = 3 then ((true, s2, s3), true) else if cu = 0 ∧ s2 < (tu.size : Int) then ((false, (tu.size : Int), X), false) else ((false, s2, s3), false)) := ⟨_, rfl⟩
  rw [← hZ]
  have HZ := Lib.hid hZ
  clear hZ
  replace S : Star w0 w (oB go [.bool s1] 4 :: oB gb [.int .i64 s2] 3 :: oB gw [.string s3] 9 :: ps) := S
  go_enter Tryd.func26, Tryd.ntmps26
  go_wp2_with fail
  refine (hUU.out w (Below.refl _ _)).mono ?_
  rintro e w2 ⟨r1, rfl, b1⟩
  replace S := S.step b1
  clear b1 c0 c1 c2 c3 hUU
  have x0 := (S.blk 0 rfl).cell 0 rfl
  have xf := (S.blk 0 rfl).free
  have S2 := S.set 0 (.bool (cu == 3))
  go_upto_region 3 with fail
  generalize hW : w2.setCell _ _ = w3 at S2 ⊢
  clear hW S x0 xf
  by_cases h1 : cu = 3
  · have hz : Z = ((true, s2, s3), true) := HZ.out.trans (if_pos h1)
    subst hz
    subst h1
    have x0 := (S2.blk 0 rfl).cell 0 rfl
    clear HZ
    go_wp2
    go_ret
    exact ⟨rfl, S2⟩
  have tA : (cu == 3) = false := by simpa using h1
  have hz := HZ.out.trans (if_neg h1)
  have HZ2 := Lib.hid hz
  rw [tA] at S2 ⊢
  clear hz HZ h1
  have x0 := (S2.blk 0 rfl).cell 0 rfl
  have y0 := (S2.blk 1 rfl).cell 0 rfl
  by_cases h2 : cu = 0
  · by_cases h3 : s2 < (tu.size : Int)
    · have hz : Z = ((false, (tu.size : Int), X), false) := HZ2.out.trans (if_pos ⟨h2, h3⟩)
      subst hz
      subst h2
      have h4 : s2 < (tu.size : Int) := h3
      clear HZ2 tA h3
      have z0 := (S2.blk 2 rfl).cell 0 rfl
      have zf := (S2.blk 2 rfl).free
      have SW := ((Star.mid' (xs := [oB go [.bool false] 4, oB gb [.int .i64 s2] 3]) S2).set 0 (.string X)).mid (xs := [oB go [.bool false] 4, oB gb [.int .i64 s2] 3])
      have yw := (SW.blk 1 rfl).cell 0 rfl
      have yf := (SW.blk 1 rfl).free
      have SF := ((Star.mid' (xs := [oB go [.bool false] 4]) SW).set 0 (.int .i64 (tu.size : Nat))).mid (xs := [oB go [.bool false] 4])
      have xF := (SF.blk 0 rfl).cell 0 rfl
      go_wp2
      go_ret
      exact ⟨rfl, SF⟩
    · have hz : Z = ((false, s2, s3), false) := HZ2.out.trans (if_neg (fun h => h3 h.2))
      subst hz
      subst h2
      have h4 : ¬ s2 < (tu.size : Int) := h3
      clear HZ2 tA h3
      go_wp2
      go_ret
      exact ⟨rfl, S2⟩
  · have hz : Z = ((false, s2, s3), false) := HZ2.out.trans (if_neg (fun h => h2 h.1))
    subst hz
    have tB : (cu == 0) = false := by simpa using h2
    clear HZ2 h2
    go_wp2
    go_ret
    exact ⟨rfl, S2⟩

end Go.Proofs.YtjochoghmpcgdaaDoor

/-
  Scanning the words length by length, in plain words.
-/
namespace Go.Proofs.YtjochoghmpcgdaaDoor

theorem scanW_app {σ : Type} (step : List UInt8 → σ → σ × Bool) : ∀ (a b : List (List UInt8)) (s : σ), scanW step (a ++ b) s = if (scanW step a s).2 = true then scanW step a s else scanW step b (scanW step a s).1
  | [], b, s => by simp [scanW]
  | x :: r, b, s => by
    rw [List.cons_append, scanW, scanW]
    by_cases h : (step x s).2 = true
    · rw [if_pos h, if_pos h]; simp
    · rw [if_neg h, if_neg h]; exact scanW_app step r b _

/-- The words of the lengths from n on, up to N. -/
def restW (c n N : Nat) : List (List UInt8) := (List.range' n (N + 1 - n)).flatMap (wordsN c)

theorem restW_zero (c N : Nat) : restW c 0 N = allW c N := by
  unfold restW allW
  rw [List.range_eq_range', Nat.sub_zero]

theorem restW_cons (c n N : Nat) (h : n ≤ N) : restW c n N = wordsN c n ++ restW c (n + 1) N := by
  unfold restW
  rw [show N + 1 - n = (N + 1 - (n + 1)) + 1 from by omega, List.range'_succ, List.flatMap_cons]

theorem restW_nil (c N : Nat) : restW c (N + 1) N = [] := by
  unfold restW
  rw [Nat.sub_self]
  rfl

theorem scanO_link (u v : Writer) : ∀ l : List (List UInt8), (scanW (stepO u v) l (6, ⟨#[]⟩)).1 = ((scanO u v l).2, (scanO u v l).1)
  | [] => rfl
  | x :: r => by
    unfold scanW scanO stepO
    by_cases h1 : (writtenT u x).2 = 3 ∨ (writtenT v x).2 = 3
    · simp only [if_pos h1]; rfl
    · simp only [if_neg h1]
      by_cases h2 : writtenT u x ≠ writtenT v x
      · simp only [if_pos h2]; rfl
      · simp only [if_neg h2]
        exact scanO_link u v r

end Go.Proofs.YtjochoghmpcgdaaDoor

/-
  countWords.
-/
namespace Go.Proofs.YtjochoghmpcgdaaDoor
open Go.RowKit

set_option maxHeartbeats 2000000 in
theorem countWords_any (c N : Nat) (hc : 1 ≤ c ∧ c ≤ 3) (hN : N ≤ 60) (w : World) :
    Calls Tryd.prog 22 #[.int .i64 (c : Nat), .int .i64 (N : Nat)] w (fun e w' => ∃ k : Nat, e = .returned (.int .i64 (k : Nat)) ∧ k < 10000 ∧ (2000 < k ↔ 2000 < (allW c N).length) ∧ w' = w) := by
  go_enter Tryd.func22, Tryd.ntmps22
  go_wp2
  go_loopw [5, 6, 8] (fun vs vp vk wr => ∃ (k s p : Nat), k ≤ N ∧ vs = .int .i64 (s : Nat) ∧ vp = .int .i64 (p : Nat) ∧ vk = .int .i64 (k : Nat) ∧ wr = w ∧ s ≤ 2000 ∧ p ≤ s ∧ Hid (s = (allW c k).length) ∧ Hid (p = (wordsN c k).length)) (fun _ _ vk _ => N - (intOf vk).toNat)
  case atStart => exact ⟨0, 1, 1, Nat.zero_le _, rfl, rfl, rfl, rfl, by omega, Nat.le_refl _, Lib.hid rfl, Lib.hid rfl⟩
  case round =>
    obtain ⟨k, s, p, hk, rfl, rfl, rfl, rfl, hs, hp, HS, HP⟩ := hrel
    by_cases hkn : k < N
    case neg =>
      have hkN : k = N := by omega
      go_wp2
      go_ret
      exact ⟨s, rfl, by omega, by rw [HS.out, hkN], rfl⟩
    have hpc : p * c ≤ 6000 := by
      have := Nat.mul_le_mul hp hc.2
      omega
    obtain ⟨q, hq⟩ : ∃ q, q = p * c := ⟨_, rfl⟩
    have hq1 : q = (wordsN c (k + 1)).length := by rw [hq, HP.out, wordsN_len]
    have hs1 : s + q = (allW c (k + 1)).length := by rw [allW_len_succ, ← HS.out, ← hq1]
    have HQ := Lib.hid hq1; have HS1 := Lib.hid hs1
    have wa : IntKind.i64.wrap ((p : Int) * (c : Int)) = (q : Int) := by rw [hq, Int.natCast_mul]; exact IntWalk.i64_in _ ⟨by rw [← Int.natCast_mul]; omega, by rw [← Int.natCast_mul]; omega⟩
    rw [← hq] at hpc
    have wb : IntKind.i64.wrap ((s : Int) + (q : Int)) = (s : Int) + (q : Int) := IntWalk.i64_in _ ⟨by omega, by omega⟩
    clear hq hq1 hs1
    have i1 : (k : Int) < (N : Int) := by omega
    by_cases hb : 2000 < s + q
    · have hb2 : (2000 : Int) < (s : Int) + (q : Int) := by omega
      have hm := allW_mono c (show k + 1 ≤ N by omega)
      rw [← HS1.out] at hm
      have HM := Lib.hid hm
      clear hm
      go_wp2
      go_ret
      exact ⟨s + q, by simp, by omega, by have := HM.out; constructor <;> intro _ <;> omega, rfl⟩
    · have hb2 : ¬ (2000 : Int) < (s : Int) + (q : Int) := by omega
      go_wp2
      go_roundw
      case rel => exact ⟨k + 1, s + q, q, by omega, by simp, rfl, by go_num, by trivial, by omega, by omega, HS1, HQ⟩
      case measure => simp [intOf]; omega

end Go.Proofs.YtjochoghmpcgdaaDoor

/-
  ValidWriter of the reference: what it answers.
-/
namespace Go.Proofs.YtjochoghmpcgdaaDoor
open Go.RowKit

theorem l02Ok_is (b : Bool) (v2 : Value) (p : Turner) (B g : Nat) (w : World) (hA0 : Hd w g [.int .i64 p.letters, .int .i64 p.start, v2]) (hh2 : movessE.rd w B [v2] p.moves) (hb : validTurn p = b) :
    Calls Tryd.prog 60 #[.pointer (some ⟨g, 0, none⟩)] w (Gives (.bool b) w) := hb ▸ l02Ok_any v2 p B g w hA0 hh2

set_option maxHeartbeats 2000000 in
theorem l07Ok_any (v2 v3 : Value) (r : Writer) (B g : Nat) (w : World) (hB0 : B ≤ w.heap.size) (hA0 : Blk w g [.int .i64 r.turner.letters, .int .i64 r.turner.start, v2, v3] 30)
    (k2 : movessE.rd w B [v2] r.turner.moves) (h3 : strssE.rd w B [v3] r.out) :
    Calls Tryd.prog 32 #[.pointer (some ⟨g, 0, none⟩)] w (Gives (.bool (writerOk r)) w) := by
  obtain ⟨a, cap, rfl, a1, a2, -, a4⟩ := rd_slice1 rfl k2
  obtain ⟨b, bcap, rfl, b1, b2, -, b4⟩ := rd_slice1 rfl h3
  have H2 := Lib.hid k2
  clear k2 h3
  have A4 := Lib.hid a4; clear a4
  have B4 := Lib.hid b4; clear b4
  have hov := cell_over w
  have hg := hA0.lt
  cases hv : validTurn r.turner
  · have HV := Lib.hid hv; clear hv
    have hno : writerOk r = false := by unfold writerOk; rw [HV.out]; rfl
    rw [hno]
    have HD := Lib.hid (Hd.left (c1 := [.int .i64 r.turner.letters, .int .i64 r.turner.start, .slice a r.turner.moves.length cap]) (c2 := [.slice b r.out.length bcap]) hA0.hd)
    clear hA0
    go_enter Tryd.func32, Tryd.ntmps32
    go_wp2
    refine wp_region_over (by kernel_rfl) (by kernel_rfl) ?_
    repeat (go_big_quiet_step ((go_at_call 60; exact calls_over (l02Ok_is false _ r.turner B g _ (HD.out.of (below_over w _) hg) (movessE.rd_of ((below_over w _).mono hB0) H2.out) HV.out))))
    refine wpQuiet_nil ?_
    intro w1 hw1
    go_wp2
    go_ret
    exact ⟨rfl, hw1⟩
  have HV := Lib.hid hv; clear hv
  obtain ⟨n, hn⟩ : ∃ n, n = r.turner.moves.length := ⟨_, rfl⟩
  obtain ⟨m, hm⟩ : ∃ n, n = r.out.length := ⟨_, rfl⟩
  rw [← hn] at A4 H2 a1 hA0
  rw [← hm] at B4 b1 hA0
  have HN := Lib.hid hn; clear hn
  have HM := Lib.hid hm; clear hm
  have HR : Hid (writerOk r = (decide (m = n) && (List.range n).all fun s => orowOk (r.out[s]?.getD default) (r.turner.moves[s]?.getD default).length)) := Lib.hid (by unfold writerOk; rw [HV.out, HN.out, HM.out]; rfl)
  obtain ⟨res, hres⟩ : ∃ x, x = writerOk r := ⟨_, rfl⟩
  rw [← hres]
  have HRES := Lib.hid (hres.trans HR.out); clear hres HR
  have HD := Lib.hid (Hd.left (c1 := [.int .i64 r.turner.letters, .int .i64 r.turner.start, .slice a n cap]) (c2 := [.slice b m bcap]) hA0.hd)
  have c2 := hA0.cell 2 rfl
  have c3 := hA0.cell 3 rfl
  by_cases hmn : m = n
  case neg =>
    have hno : res = false := by rw [HRES.out, decide_eq_false hmn]; rfl
    have hb1 : ((m : Int) != (n : Int)) = true := by simp; omega
    rw [hno]
    clear hA0 hmn
    go_enter Tryd.func32, Tryd.ntmps32
    go_wp2
    refine wp_region_over (by kernel_rfl) (by kernel_rfl) ?_
    repeat (go_big_quiet_step ((go_at_call 60; exact calls_over (l02Ok_is true _ r.turner B g _ (HD.out.of (below_over w _) hg) (movessE.rd_of ((below_over w _).mono hB0) H2.out) HV.out))))
    refine wpQuiet_nil ?_
    intro w1 hw1
    go_wp2
    go_ret
    exact ⟨rfl, hw1⟩
  subst hmn
  have hres : Hid (res = (List.range m).all fun s => orowOk (r.out[s]?.getD default) (r.turner.moves[s]?.getD default).length) := Lib.hid (by rw [HRES.out, decide_eq_true rfl, Bool.true_and])
  clear HRES
  have hb1 : ((m : Int) != (m : Int)) = false := by simp
  have HA0 := Lib.hid hA0; clear hA0
  go_enter Tryd.func32, Tryd.ntmps32
  go_wp2
  refine wp_region_over (by kernel_rfl) (by kernel_rfl) ?_
  repeat (go_big_quiet_step ((go_at_call 60; exact calls_over (l02Ok_is true _ r.turner B g _ (HD.out.of (below_over w _) hg) (movessE.rd_of ((below_over w _).mono hB0) H2.out) HV.out))))
  refine wpQuiet_nil ?_
  intro w1 hw1
  go_wp2
  have hA := HA0.out.of hw1 hg
  clear hov c2 c3 HD
  go_loopw [3] (fun i wr => ∃ k : Nat, k ≤ m ∧ i = .int .i64 k ∧ Below w.heap.size w wr ∧ Blk wr g [.int .i64 r.turner.letters, .int .i64 r.turner.start, .slice a m cap, .slice b m bcap] 30 ∧ Hid (∀ i, i < k → orowOk (r.out[i]?.getD default) (r.turner.moves[i]?.getD default).length = true)) (fun i _ => m - (intOf i).toNat)
  case atStart => exact ⟨0, by omega, rfl, hw1, hA, Lib.hid (fun i hi => absurd hi (by omega))⟩
  case round =>
    clear hA hw1
    obtain ⟨k, hk, rfl, hB, hA, HE⟩ := hrel
    have c2 := hA.cell 2 rfl
    have c3 := hA.cell 3 rfl
    by_cases hlt : k < m
    case neg =>
      obtain rfl : k = m := by omega
      have hyes : res = true := by rw [hres.out]; exact range_all (fun i hi => HE.out i hi)
      go_wp2
      go_ret
      exact ⟨by rw [hyes]; rfl, hB⟩
    obtain ⟨p, o, vk, rfl, -, hc, hr⟩ := A4.out k hlt
    obtain ⟨p2, o2, vk2, rfl, -, hc2, hr2⟩ := B4.out k hlt
    have l1 := World.block_lt_of_cell? w _ hc
    have l2 := World.block_lt_of_cell? w _ hc2
    have g1 := (hB.cell l1).trans hc
    have g2 := (hB.cell l2).trans hc2
    obtain ⟨sa, sc, rfl, s1, s2, -, -⟩ := rd_movesE hr
    obtain ⟨ta, tc, rfl, t1, t2, -, t4⟩ := rd_strs hr2
    have HC2 := Lib.hid hc2
    clear hc hc2 hr hr2
    obtain ⟨x, hx⟩ : ∃ x, x = (r.turner.moves[k]?.getD default).length := ⟨_, rfl⟩
    obtain ⟨row, hrow⟩ : ∃ x, x = r.out[k]?.getD default := ⟨_, rfl⟩
    rw [← hx] at g1 s1
    rw [← hrow] at g2 t1 t4 HC2
    have HX := Lib.hid hx; clear hx
    have HROW := Lib.hid hrow; clear hrow
    obtain ⟨y, hy⟩ : ∃ x, x = row.length := ⟨_, rfl⟩
    rw [← hy] at g2 t1 t4 HC2
    have HY := Lib.hid hy; clear hy
    have T4 := Lib.hid t4; clear t4
    have HA' := Lib.hid hA; have la := hA.lt; clear hA
    have HBr := Lib.hid hB; clear hB
    by_cases hlen : y = x
    case neg =>
      have hb2 : ((y : Int) != (x : Int)) = true := by simp; omega
      have hno : Hid (res = false) := Lib.hid (by rw [hres.out]; exact range_not hlt (by unfold orowOk; rw [← HROW.out, ← HX.out, decide_eq_false (by rw [← HY.out]; exact hlen)]; rfl))
      clear hlen
      go_wp2
      go_quiet (fail)
      go_wp2
      go_ret
      exact ⟨by rw [hno.out]; rfl, below_drewN HBr.out _⟩
    subst hlen
    have hb2 : ((y : Int) != (y : Int)) = false := by simp
    go_wp2
    go_quiet (fail)
    rename_i nq
    go_wp2
    have hA := HA'.out.of (below_drewN (Below.refl _ wr) nq) la
    have hB := below_drewN HBr.out nq
    clear g1 g2 c2 c3
    go_loopw [4] (fun i wr => ∃ c : Nat, c ≤ y ∧ i = .int .i64 c ∧ Below w.heap.size w wr ∧ Blk wr g [.int .i64 r.turner.letters, .int .i64 r.turner.start, .slice (some ⟨p, o, none⟩) m cap, .slice (some ⟨p2, o2, none⟩) m bcap] 30 ∧ Hid (∀ i, i < c → outOk (row[i]?.getD ByteArray.empty) = true)) (fun i _ => y - (intOf i).toNat)
    case atStart => exact ⟨0, by omega, rfl, hB, hA, Lib.hid (fun i hi => absurd hi (by omega))⟩
    case round =>
      clear hA hB
      obtain ⟨c, hc, rfl, hB, hA, HC⟩ := hrel
      have g2 := (hB.cell l2).trans HC2.out
      have c3 := hA.cell 3 rfl
      by_cases hcm : c < y
      case neg =>
        obtain rfl : c = y := by omega
        have hyes : Hid (orowOk (r.out[k]?.getD default) (r.turner.moves[k]?.getD default).length = true) := Lib.hid (by unfold orowOk; rw [← HROW.out, ← HX.out, decide_eq_true HY.out.symm, Bool.true_and]; exact all_of_idx ByteArray.empty _ _ (fun i hi => HC.out i (by rw [HY.out]; exact hi)))
        go_wp2
        go_roundw
        case rel => exact ⟨k + 1, by omega, by go_num, hB, hA, Lib.hid (fun i hi => by by_cases h : i = k; (subst h; exact hyes.out); exact HE.out i (by omega))⟩
        case measure => simp [intOf]; omega
      obtain ⟨s, t, rfl, -, hp, hps⟩ := T4.out c hcm
      have p0 := (hB.cell (World.block_lt_of_cell? w _ hp)).trans hp
      clear hp
      obtain ⟨tx, htx⟩ : ∃ x, x = row[c]?.getD ByteArray.empty := ⟨_, rfl⟩
      rw [← htx] at p0 hps
      have HTX := Lib.hid htx; clear htx
      have HA5 := Lib.hid hA; clear hA
      have HB5 := Lib.hid hB; clear hB
      cases hok : outOk tx
      · have HOK := Lib.hid hok; clear hok
        have hno : Hid (res = false) := Lib.hid (by rw [hres.out]; exact range_not hlt (by unfold orowOk; rw [← HROW.out]; rw [all_not_idx ByteArray.empty outOk row c (by rw [← HY.out]; exact hcm) (by rw [← HTX.out]; exact HOK.out), Bool.and_false]))
        go_wp2_with fail
        refine (l07Text_is false _ _ HOK.out hps).mono ?_
        rintro e w6 ⟨rfl, rfl⟩
        go_wp2
        go_ret
        exact ⟨by rw [hno.out]; rfl, HB5.out⟩
      · have HOK := Lib.hid hok; clear hok
        go_wp2_with fail
        refine (l07Text_is true _ _ HOK.out hps).mono ?_
        rintro e w6 ⟨rfl, rfl⟩
        go_wp2
        go_roundw
        case rel => exact ⟨c + 1, by omega, by go_num, HB5.out, HA5.out, Lib.hid (fun i hi => by by_cases h : i = c; (subst h; rw [← HTX.out]; exact HOK.out); exact HC.out i (by omega))⟩
        case measure => simp [intOf]; omega

end Go.Proofs.YtjochoghmpcgdaaDoor

/-
  A writer, if it is valid: the program's and the reference's (written by a program of this claim's own, gen_told.py).
-/
namespace Go.Proofs.YtjochoghmpcgdaaDoor
open Go.RowKit

theorem validWriter_is (b : Bool) (cs : List Value) (r : Writer) (B : Nat) (w : World) (hB0 : B ≤ w.heap.size) (h : writE.rd w B cs r) (hb : writerOk r = b) :
    Calls Tryd.prog 20 #[.agg cs.toArray] w (Gives (.bool b) w) := hb ▸ validWriter_any cs r B w hB0 h
theorem l07Ok_is (b : Bool) (v2 v3 : Value) (r : Writer) (B g : Nat) (w : World) (hB0 : B ≤ w.heap.size) (hA0 : Blk w g [.int .i64 r.turner.letters, .int .i64 r.turner.start, v2, v3] 30)
    (k2 : movessE.rd w B [v2] r.turner.moves) (h3 : strssE.rd w B [v3] r.out) (hb : writerOk r = b) :
    Calls Tryd.prog 32 #[.pointer (some ⟨g, 0, none⟩)] w (Gives (.bool b) w) := hb ▸ l07Ok_any v2 v3 r B g w hB0 hA0 k2 h3

set_option maxHeartbeats 1000000 in
theorem told_yes (cs : List Value) (r : Writer) (B : Nat) (w : World) (hB0 : B ≤ w.heap.size) (h : writE.rd w B cs r) (hv : writerOk r = true) :
    Calls Tryd.prog 68 #[.agg cs.toArray] w (Gives (.tuple #[.agg cs.toArray, .int .i64 0]) w) := by
  have H0 := Lib.hid h
  obtain ⟨v2, v3, rfl, -, -, h2, h3⟩ := rd_WriterF h
  obtain ⟨sa, sn, sc, rfl⟩ := rd_slice h2
  obtain ⟨ta, tn, tc, rfl⟩ := rd_slice h3
  have H2 := Lib.hid h2
  have H3 := Lib.hid h3
  have HV := Lib.hid hv
  clear h h2 h3 hv
  have S := ((Star.nil w).alloc (cs := #[.int .i64 r.turner.letters, .int .i64 r.turner.start, .slice sa sn sc, .slice ta tn tc]) (ty := 30)).alloc (cs := #[.int .i64 0, .int .i64 0, .slice none 0 0, .slice none 0 0]) (ty := 30)
  rw [World.size_alloc] at S
  go_enter Tryd.func68, Tryd.ntmps68
  go_wp2_with fail
  generalize hW : (w.alloc _).alloc _ = w0 at S ⊢
  clear hW
  have hb0 := S.below.size
  refine (l07Ok_is true _ _ r B _ w0 (Nat.le_trans hB0 hb0) (S.blk 1 rfl) (movessE.rd_of (S.below.mono hB0) H2.out) (strssE.rd_of (S.below.mono hB0) H3.out) HV.out).mono ?_
  rintro e w1 ⟨rfl, b⟩
  replace S := S.step b
  clear b
  have c0 := (S.blk 1 rfl).cell 0 rfl
  have c1 := (S.blk 1 rfl).cell 1 rfl
  have c2 := (S.blk 1 rfl).cell 2 rfl
  have c3 := (S.blk 1 rfl).cell 3 rfl
  have A0 := S.blk 0 rfl
  have d0 := A0.cell 0 rfl
  have d1 := A0.cell 1 rfl
  have d2 := A0.cell 2 rfl
  have d3 := A0.cell 3 rfl
  have f0 := A0.free
  go_wp2
  generalize hW : (((w1.setCell _ _).setCell _ _).setCell _ _).setCell _ _ = w3
  replace S := S.set4 rfl hW
  have A3 := S.blk 0 rfl
  have q0 := A3.cell 0 rfl
  have q1 := A3.cell 1 rfl
  have q2 := A3.cell 2 rfl
  have q3 := A3.cell 3 rfl
  exact bodyPost_ret (v := .tuple #[.agg #[.int .i64 r.turner.letters, .int .i64 r.turner.start, .slice sa sn sc, .slice ta tn tc], .int .i64 0]) (by simp [results, Tryd.results68, go_sem, q0, q1, q2, q3]) rfl ⟨rfl, S.below⟩

set_option maxHeartbeats 1000000 in
theorem told_no (cs : List Value) (r : Writer) (B : Nat) (w : World) (hB0 : B ≤ w.heap.size) (h : writE.rd w B cs r) (hv : writerOk r = false) :
    Calls Tryd.prog 68 #[.agg cs.toArray] w (Gives (.tuple #[.agg #[.int .i64 0, .int .i64 0, .slice none 0 0, .slice none 0 0], .int .i64 3]) w) := by
  have H0 := Lib.hid h
  obtain ⟨v2, v3, rfl, -, -, h2, h3⟩ := rd_WriterF h
  obtain ⟨sa, sn, sc, rfl⟩ := rd_slice h2
  obtain ⟨ta, tn, tc, rfl⟩ := rd_slice h3
  have H2 := Lib.hid h2
  have H3 := Lib.hid h3
  have HV := Lib.hid hv
  clear h h2 h3 hv
  have S := ((Star.nil w).alloc (cs := #[.int .i64 r.turner.letters, .int .i64 r.turner.start, .slice sa sn sc, .slice ta tn tc]) (ty := 30)).alloc (cs := #[.int .i64 0, .int .i64 0, .slice none 0 0, .slice none 0 0]) (ty := 30)
  rw [World.size_alloc] at S
  go_enter Tryd.func68, Tryd.ntmps68
  go_wp2_with fail
  generalize hW : (w.alloc _).alloc _ = w0 at S ⊢
  clear hW
  have hb0 := S.below.size
  refine (l07Ok_is false _ _ r B _ w0 (Nat.le_trans hB0 hb0) (S.blk 1 rfl) (movessE.rd_of (S.below.mono hB0) H2.out) (strssE.rd_of (S.below.mono hB0) H3.out) HV.out).mono ?_
  rintro e w1 ⟨rfl, b⟩
  replace S := S.step b
  clear b
  have c0 := (S.blk 1 rfl).cell 0 rfl
  have c1 := (S.blk 1 rfl).cell 1 rfl
  have c2 := (S.blk 1 rfl).cell 2 rfl
  have c3 := (S.blk 1 rfl).cell 3 rfl
  have A0 := S.blk 0 rfl
  have d0 := A0.cell 0 rfl
  have d1 := A0.cell 1 rfl
  have d2 := A0.cell 2 rfl
  have d3 := A0.cell 3 rfl
  have f0 := A0.free
  go_wp2
  generalize hW : (((w1.setCell _ _).setCell _ _).setCell _ _).setCell _ _ = w3
  replace S := S.set4 rfl hW
  have A3 := S.blk 0 rfl
  have q0 := A3.cell 0 rfl
  have q1 := A3.cell 1 rfl
  have q2 := A3.cell 2 rfl
  have q3 := A3.cell 3 rfl
  exact bodyPost_ret (v := .tuple #[.agg #[.int .i64 0, .int .i64 0, .slice none 0 0, .slice none 0 0], .int .i64 3]) (by simp [results, Tryd.results68, go_sem, q0, q1, q2, q3]) rfl ⟨rfl, S.below⟩

theorem rd_writE {w : World} {B : Nat} {v2 v3 : Value} {r : Writer} (h2 : movessE.rd w B [v2] r.turner.moves) (h3 : strssE.rd w B [v3] r.out) (b0 : -9223372036854775808 ≤ r.turner.letters ∧ r.turner.letters ≤ 9223372036854775807) (b1 : -9223372036854775808 ≤ r.turner.start ∧ r.turner.start ≤ 9223372036854775807) :
    writE.rd w B [.int .i64 r.turner.letters, .int .i64 r.turner.start, v2, v3] r :=
  ⟨[_, _, v2], [v3], rfl, ⟨[_], [_, v2], rfl, ⟨rfl, b0⟩, ⟨[_], [v2], rfl, ⟨rfl, b1⟩, h2⟩⟩, h3⟩

end Go.Proofs.YtjochoghmpcgdaaDoor
