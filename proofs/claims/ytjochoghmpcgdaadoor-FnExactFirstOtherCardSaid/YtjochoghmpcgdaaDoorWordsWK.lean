/-
  The walk of wordsOf.
-/
import Derived.Test.YtjochoghmpcgdaaDoorNextWK
import Derived.Test.YtjochoghmpcgdaaDoorRunIK
import Derived.Test.YtjochoghmpcgdaaDoorBldSK
import Derived.Deep.DeepCutAuto
namespace Go.Proofs.YtjochoghmpcgdaaDoor
open Go.RowKit

set_option maxHeartbeats 8000000 in
set_option maxRecDepth 100000 in
theorem wordsOf_any {σ : Type} (step : List UInt8 → σ → σ × Bool) (mk : σ → List Ob) (F : FuncId) (v1 v2 v3 v4 : Value) (c len : Nat) (hc : 1 ≤ c ∧ c ≤ 3) (hlen : len ≤ 60) (hcall : ∀ (y : ByteArray) (w : World), (callFunc F #[.string y, v1, v2, v3, v4]).run Tryd.prog w = .ok (.enter F #[.string y, v1, v2, v3, v4]) w) (w0 w : World) (s : σ) (ps : List Ob) (R : σ × Bool)
    (hcb : ∀ x, x ∈ wordsN c len → ∀ (s : σ) (ps : List Ob) (w : World), Star w0 w (mk s ++ ps) → Calls Tryd.prog F #[.string ⟨x.toArray⟩, v1, v2, v3, v4] w (fun e w' => e = .returned (.bool (step x s).2) ∧ Star w0 w' (mk (step x s).1 ++ ps)))
    (S : Star w0 w (mk s ++ ps)) (hR : scanW step (wordsN c len) s = R) :
    Calls Tryd.prog 23 #[.int .i64 (c : Nat), .int .i64 (len : Nat), .func (.func F) #[] #[v1, v2, v3, v4]] w (fun e w' => e = .returned (.bool R.2) ∧ Star w0 w' (mk R.1 ++ ps)) := by
  have HCB := Lib.hid hcb
  have HR := Lib.hid hR
  clear hcb hR
  have S1 := S.alloc (cs := #[.int .u8 97]) (ty := 5)
  have h0 := (S1.blk 0 rfl).cell 0 rfl
  have HREP : Hid (Calls Tryd.prog 48 #[.slice (some ⟨w.heap.size, 0, none⟩) 1 1, .int .i64 (len : Nat)] (w.alloc (.cells #[.int .u8 97] 5)) (RowB (bytesV (digs c len 0)) len (w.alloc (.cells #[.int .u8 97] 5)))) := Lib.hid (by
    have e : bytesV (digs c len 0) = List.replicate len (.int .u8 97) := by
      clear HR HCB S1 h0 S hlen
      induction len with
      | zero => rfl
      | succ n ih =>
        rw [digs_last, Nat.zero_div, Nat.zero_mod]
        unfold bytesV at ih ⊢
        rw [List.map_append, ih, List.replicate_succ']
        rfl
    rw [e]
    by_cases hl : len = 0
    · subst hl
      exact repeat_0 _ 1 _ h0
    · exact repeat_b _ 1 len ⟨by omega, hlen⟩ _ h0)
  go_enter Tryd.func23, Tryd.ntmps23
  go_wp2_with fail
  refine HREP.out.mono ?_
  rintro e w2 ⟨q, rfl, r1, r2, r3⟩
  replace S1 := S1.tl
  have S2 : Star w0 w2 (oB q (bytesV (digs c len 0)) 5 :: (mk s ++ ps)) := S1.push (P := oB q (bytesV (digs c len 0)) 5) (f := [q]) r3 ⟨r1, rfl⟩ (by simp) (fun b hb => by rw [List.mem_singleton.1 hb]; exact r2) (fun b hb => by rw [List.mem_singleton.1 hb]; exact r1.lt)
  have hpos : 0 < (wordsN c len).length := by
    clear HR HCB S1 h0 HREP S2 S hlen r1 r2 r3
    induction len with
    | zero => exact Nat.zero_lt_one
    | succ n ih => rw [wordsN_len]; exact Nat.mul_pos ih (by omega)
  clear S1 S h0 HREP r1 r2 r3
  obtain ⟨WN, hWN⟩ : ∃ z, z = (wordsN c len).length := ⟨_, rfl⟩
  rw [← hWN] at hpos
  have HWN := Lib.hid hWN
  clear hWN
  go_wp2
  go_loopw [8] (fun _ wr => ∃ (k : Nat) (s' : σ), k < WN ∧ Star w0 wr (oB q (bytesV (digs c len k)) 5 :: (mk s' ++ ps)) ∧ Hid (scanW step ((wordsN c len).drop k) s' = R)) (fun _ wr => WN - numV c (rowAt wr q))
  case atStart => exact ⟨0, s, hpos, S2, HR⟩
  case round =>
    clear S2 HR
    obtain ⟨k, s', hk, S, HR⟩ := hrel
    have hnum : numV c (rowAt wr q) = k := by
      have h := (S.blk 0 rfl)
      unfold Blk at h
      unfold rowAt
      rw [h]
      exact numV_digs hc len k (by rw [← HWN.out]; exact hk)
    have HNUM := Lib.hid hnum
    obtain ⟨x, hx⟩ : ∃ x, x = digs c len k := ⟨_, rfl⟩
    have hxl : x.length = len := by rw [hx, digs_len]
    have hget : (wordsN c len)[k]? = some x := by rw [hx]; exact wordsN_get c (by omega) len k (by rw [← HWN.out]; exact hk)
    have hmem : x ∈ wordsN c len := List.mem_of_getElem? hget
    have hdrop : (wordsN c len).drop k = x :: (wordsN c len).drop (k + 1) := by
      have hkl := (List.getElem?_eq_some_iff.1 hget).1
      rw [List.drop_eq_getElem_cons hkl, (List.getElem?_eq_some_iff.1 hget).2]
    have hR2 := HR.out
    rw [hdrop, scanW] at hR2
    have HR2 := Lib.hid hR2
    rw [← hx] at S
    have hcv := run_convert_bytes_back (P := Tryd.prog) wr 22 9 5 ⟨q, 0, none⟩ len x Tryd.underlying22 Tryd.underlying5 Tryd.underlying9 (fun j hj => by
      rw [Addr.add_lit, Nat.zero_add]
      refine (S.blk 0 rfl).cell j ?_
      unfold bytesV
      rw [List.getElem?_map, List.getElem?_eq_getElem hj]
      rfl)
    rw [hxl] at hcv
    have HCALL := Lib.hid (HCB.out x hmem s' (oB q (bytesV x) 5 :: ps) wr S.mid)
    have HX := Lib.hid hx
    have HXL := Lib.hid hxl
    clear hnum hx hxl hget hmem hdrop hR2 HR
    obtain ⟨⟨t', bt⟩, hst⟩ : ∃ y, y = step x s' := ⟨_, rfl⟩
    rw [← hst] at HCALL HR2
    simp only at HR2 HCALL
    clear hst
    go_wp2_with fail
    refine HCALL.out.mono ?_
    rintro e w3 ⟨rfl, S3⟩
    replace S := S3.mid'
    clear S3 HCALL hcv
    cases bt
    case true =>
      have hR3 : (t', true) = R := by have h := HR2.out; rw [if_pos rfl] at h; exact h
      subst hR3
      go_wp2
      go_ret
      exact ⟨rfl, S.tl⟩
    have hR3 : scanW step ((wordsN c len).drop (k + 1)) t' = R := by have h := HR2.out; rw [if_neg (by decide)] at h; exact h
    have HR3 := Lib.hid hR3
    clear hR3 HR2
    have HI0 := Lib.hid (NextI.start (c := c) (len := len) (k := k) (by rw [← HWN.out]; exact hk))
    rw [← HX.out] at HI0
    have wl : IntKind.i64.wrap ((len : Int) - 1) = (len : Int) - 1 := IntWalk.i64_in _ ⟨by omega, by omega⟩
    go_wp2
    go_loopw [8] (fun vi wr' => ∃ (n m : Nat) (row : List UInt8), vi = .int .i64 ((n : Int) - 1) ∧ Star w0 wr' (oB q (bytesV row) 5 :: (mk t' ++ ps)) ∧ Hid (NextI c len k n m row)) (fun vi _ => (intOf vi + 1).toNat)
    case atStart => exact ⟨len, k, x, rfl, S, HI0⟩
    case round =>
      clear S HI0
      obtain ⟨n, m, row, rfl, S, HI⟩ := hrel
      have hnl := HI.out.le
      have hrl := HI.out.len
      have HRL := Lib.hid hrl
      cases n with
      | zero =>
        have hst := HI.out.stop
        rw [← HWN.out] at hst
        have hR4 : (t', false) = R := by
          have h := HR3.out
          rw [List.drop_eq_nil_of_le (by rw [← HWN.out]; omega)] at h
          exact h
        subst hR4
        clear hrl hst
        have hm1 : ((0 : Nat) : Int) - 1 = -1 := by omega
        rw [hm1]
        clear hm1
        go_wp2
        go_ret
        exact ⟨rfl, S.tl⟩
      | succ n =>
        have hn1 : ((n + 1 : Nat) : Int) - 1 = (n : Int) := by omega
        rw [hn1]
        clear hn1
        have hat := HI.out.at
        obtain ⟨d, hd⟩ : ∃ d, d = m % c := ⟨_, rfl⟩
        have hdc : d < c := by rw [hd]; exact Nat.mod_lt m hc.1
        rw [← hd] at hat
        have hbn : (UInt8.ofNat (97 + d)).toNat = 97 + d := by rw [UInt8.toNat_ofNat']; exact Nat.mod_eq_of_lt (by omega)
        have hnr : n < row.length := (List.getElem?_eq_some_iff.1 hat).1
        have xc : wr.cell? ⟨q, n, none⟩ = some (.int .u8 (97 + (d : Int))) := (S.blk 0 rfl).cell n (by unfold bytesV; rw [List.getElem?_map, hat]; show some (Value.int .u8 (((UInt8.ofNat (97 + d)).toNat : Nat) : Int)) = _; rw [hbn]; rfl)
        have xf := (S.blk 0 rfl).free
        have i1 : (0 : Int) ≤ (n : Int) := by omega
        have i2 : (n : Int) < (len : Int) := by omega
        have wc : IntKind.i64.wrap ((c : Int) - 1) = (c : Int) - 1 := IntWalk.i64_in _ ⟨by omega, by omega⟩
        have HLO := Lib.hid (letterOf_r d (97 + (d : Int)) wr rfl (by omega))
        have HD := Lib.hid hd
        clear hat hnr hrl hd
        by_cases hdl : d = c - 1
        · have tA : ((d : Int) == (c : Int) - 1) = true := by
            have : (d : Int) = (c : Int) - 1 := by omega
            rw [this]; exact beq_self_eq_true _
          have wn : IntKind.i64.wrap ((n : Int) - 1) = (n : Int) - 1 := IntWalk.i64_in _ ⟨by omega, by omega⟩
          have HIB := Lib.hid (HI.out.back hc.1 (by rw [← HD.out]; exact hdl))
          clear hdl
          go_wp2_with fail
          refine HLO.out.mono ?_
          rintro e w5 ⟨rfl, rfl⟩
          go_wp2
          go_roundw
          case rel => exact ⟨n, m / c, row.set n 97, rfl, by rw [← bytesV_set]; exact S.set n _, HIB⟩
          case measure => simp [intOf] <;> omega
        · have tA : ((d : Int) == (c : Int) - 1) = false := by
            have : ¬ (d : Int) = (c : Int) - 1 := by omega
            simpa using this
          have wu : IntKind.u8.wrap (97 + (d : Int) + 1) = 97 + (d : Int) + 1 := IntWalk.u8_in _ ⟨by omega, by omega⟩
          obtain ⟨hi1, hi2⟩ := HI.out.inc hc.1 (by rw [← HD.out]; exact hdl)
          rw [← HD.out] at hi1
          have HI1 := Lib.hid hi1
          rw [← HWN.out] at hi2
          have hb2 : (UInt8.ofNat (97 + (d + 1))).toNat = 97 + (d + 1) := by rw [UInt8.toNat_ofNat']; exact Nat.mod_eq_of_lt (by omega)
          have HB2 := Lib.hid hb2
          clear hdl hi1 hb2
          go_wp2_with fail
          refine HLO.out.mono ?_
          rintro e w5 ⟨rfl, rfl⟩
          go_wp2
          go_roundw
          case rel => exact ⟨k + 1, t', hi2, by rw [← HI1.out, ← bytesV_set, HB2.out]; exact S.set n _, HR3⟩
          case measure =>
            have hv : Value.int .u8 (97 + (d : Int) + 1) = .int .u8 ((97 + (d + 1) : Nat) : Int) := by congr 1
            have hrow : (bytesV row).set n (.int .u8 (97 + (d : Int) + 1)) = bytesV (digs c len (k + 1)) := by rw [hv, ← HB2.out, bytesV_set, HI1.out]
            have hS := (S.set n (.int .u8 (97 + (d : Int) + 1))).blk 0 rfl
            rw [hrow] at hS
            have h2 : numV c (rowAt (wr.setCell ⟨q, n, none⟩ (.int .u8 (97 + (d : Int) + 1))) q) = k + 1 := by
              unfold Blk at hS
              unfold rowAt
              rw [hS]
              exact numV_digs hc len (k + 1) (by rw [← HWN.out]; exact hi2)
            show WN - numV c (rowAt (wr.setCell ⟨q, n, none⟩ (.int .u8 (97 + (d : Int) + 1))) q) < WN - numV c (rowAt _ q)
            rw [h2, HNUM.out]
            omega

end Go.Proofs.YtjochoghmpcgdaaDoor
