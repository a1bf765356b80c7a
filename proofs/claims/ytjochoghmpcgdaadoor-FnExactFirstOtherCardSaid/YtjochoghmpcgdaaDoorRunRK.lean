/-
  The program's run of a turner on a word.
-/
import Derived.Test.YtjochoghmpcgdaaDoorRunR0K
import Derived.Deep.DeepCutAuto
import Derived.Test.YtjochoghmpcgdaaDoorPackA
import Derived.Maps.OwnOps
namespace Go.Proofs.YtjochoghmpcgdaaDoor
open Go.RowKit

set_option maxHeartbeats 16000000 in
set_option maxRecDepth 100000 in
theorem run_any (t : Turner) (X : ByteArray) (R : List Pl × Int) (ta tp tc : Nat) (w : World) (h : RdT t w ta tp tc) (hx : wordOk t.letters.toNat X.data.toList) (hX : X.size ≤ 1000) (hR : runT t X.data.toList = R) :
    Calls Tryd.prog 50 #[.agg #[.int .i64 t.letters, .int .i64 t.start, .slice (some ⟨ta, tp, none⟩) t.moves.length tc], .string X] w (RunIs R w) := by
  have K := h.ok
  have hl : X.data.toList.length = X.size := by rw [Array.length_toList]; rfl
  obtain ⟨n, hn⟩ : ∃ n, n = t.moves.length := ⟨_, rfl⟩
  obtain ⟨m, hm⟩ : ∃ m, m = X.data.toList.length + 2 := ⟨_, rfl⟩
  have hn12 : n ≤ 12 := by rw [hn]; exact K.n12
  have hm1 : m ≤ 1002 := by omega
  have hnm : n * m ≤ 12 * 1002 := Nat.mul_le_mul hn12 hm1
  obtain ⟨st, hst⟩ : ∃ s : Nat, t.start = s := ⟨t.start.toNat, by have := K.s0; omega⟩
  have hstn : st < n := by have := K.s1; omega
  have hR2 : runGo t X.data.toList (n * m + 1) [] (st, 0) = R := by
    rw [← hR]; unfold runT placesN; rw [hst, hn, hm]; rfl
  have HG0 := Lib.hid hR2
  have HH := Lib.hid h; have HK := Lib.hid K; have HN := Lib.hid hn; have HM := Lib.hid hm; have HX := Lib.hid hx; have HST := Lib.hid hst
  rw [hst]
  clear hR hR2 hl hst K h hx
  have hst6 : st < 1000000 := by omega
  have S := ((((Star.nil w).alloc (cs := #[.int .i64 t.letters, .int .i64 (st : Nat), .slice (some ⟨ta, tp, none⟩) t.moves.length tc]) (ty := 27)).alloc (cs := #[]) (ty := 96)).lit0 (E := plE)).allocMet.alloc (cs := #[.int .i64 (st : Nat), .int .i64 0]) (ty := 96)
  replace S := S.sel [2, 1, 0, 3]
  have hmm := @run_makeMap Tryd.prog
  rw [World.size_alloc, World.size_alloc, World.size_alloc] at S
  go_enter Tryd.func50, Tryd.ntmps50
  go_wp2_with fail
  generalize hW : (((w.alloc _).alloc _).alloc _).alloc _ = w0 at S ⊢
  obtain ⟨g2, hg2⟩ : ∃ g, g = w.heap.size := ⟨_, rfl⟩
  rw [← hg2] at S ⊢
  obtain ⟨g7, hg7⟩ : ∃ g, g = g2 + 1 := ⟨_, rfl⟩
  rw [← hg7] at S ⊢
  obtain ⟨gm, hgm⟩ : ∃ g, g = g7 + 1 := ⟨_, rfl⟩
  rw [← hgm] at S ⊢
  obtain ⟨g9, hg9⟩ : ∃ g, g = gm + 1 := ⟨_, rfl⟩
  rw [← hg9] at S ⊢
  clear hW hg2 hg7 hgm hg9 hmm
  have HI0 : Hid (InvR n m []) := Lib.hid ⟨fun p hp => (by cases hp), List.nodup_nil⟩
  go_loopw [7] (fun vl wr => ∃ (v : Value) (out : List Pl) (p q : Nat), vl = v ∧ Star w wr [oE plsE [v] out, oMet gm out, oB g9 [.int .i64 (p : Nat), .int .i64 (q : Nat)] 96, oB g2 [.int .i64 t.letters, .int .i64 (st : Nat), .slice (some ⟨ta, tp, none⟩) t.moves.length tc] 27] ∧ Hid (runGo t X.data.toList (n * m + 1 - out.length) out (p, q) = R) ∧ Hid (InvR n m out) ∧ p < n ∧ q < m) (fun vl _ => n * m + 1 - slLen vl)
  case atStart => exact ⟨_, [], st, 0, rfl, S, HG0, HI0, hstn, by omega⟩
  case round =>
    clear S HG0 HI0
    obtain ⟨v, out, p, q, rfl, S, HG, HI, hp, hq⟩ := hrel
    obtain ⟨va, vc, rfl⟩ := S.slen 0 rfl
    have hlen := HI.out.len
    have hp6 : p < 1000000 := by omega
    have hq6 : q < 1000000 := by omega
    have hll : out.length < 1000000000000 := by omega
    have hll2 : out.length ≤ 1000000000000 := by omega
    have e0 := (S.blk 2 rfl).cell 0 rfl
    have e1 := (S.blk 2 rfl).cell 1 rfl
    have hG2 : (if out.contains (p, q) then (out, 3) else
      if (moveAt t X.data.toList (p, q)).to < 0 then (out ++ [(p, q)], if (moveAt t X.data.toList (p, q)).to = -1 then 1 else 2)
      else runGo t X.data.toList (n * m - out.length) (out ++ [(p, q)]) ((moveAt t X.data.toList (p, q)).to.toNat, ((q : Int) + (moveAt t X.data.toList (p, q)).dir).toNat)) = R := by
      have h := HG.out
      rw [show n * m + 1 - out.length = (n * m - out.length) + 1 from by omega, runGo] at h
      exact h
    have HG2 := Lib.hid hG2
    clear hG2 HG
    cases hmet : out.contains (p, q)
    case true =>
      have hR : R = (out, 3) := by rw [← HG2.out, hmet]; rfl
      have HMET := Lib.hid hmet
      clear hmet HG2
      go_wp2_with (at_lookup; refine stp_look S 1 rfl rfl rfl rfl rfl hp6 hq6 ?_; intro c; rw [HMET.out])
      subst hR
      go_ret3
      exact S.run
    have hR : (if (moveAt t X.data.toList (p, q)).to < 0 then (out ++ [(p, q)], if (moveAt t X.data.toList (p, q)).to = -1 then 1 else 2)
      else runGo t X.data.toList (n * m - out.length) (out ++ [(p, q)]) ((moveAt t X.data.toList (p, q)).to.toNat, ((q : Int) + (moveAt t X.data.toList (p, q)).dir).toNat)) = R := by rw [← HG2.out, hmet]; rfl
    have HR := Lib.hid hR
    have HI2 := Lib.hid (HI.out.snoc (p := (p, q)) ⟨hp, hq⟩ hmet)
    have HMET := Lib.hid hmet
    clear hmet HG2 hR
    have hlen2 := HI2.out.len
    rw [List.length_append, List.length_singleton] at hlen2
    have HLL : Hid ((out ++ [(p, q)]).length = out.length + 1) := Lib.hid (by rw [List.length_append, List.length_singleton])
    have SP := S.sel [1, 0, 2, 3]
    go_wp2_with (first
      | (at_builtin
         refine st1_PlS SC rfl rfl rfl rfl cell_a1 (one_mem2 rfl rfl) hll2 ?_
         intro ja jn jc w9 S9
         obtain ⟨ka, kc, hv⟩ := S9.slen 0 rfl
         simp only [Value.slice.injEq] at hv
         obtain ⟨rfl, rfl, rfl⟩ := hv
         rw [HLL.out] at S9 ⊢
         have y0 := (S9.blk 2 rfl).cell 0 rfl
         have y1 := (S9.blk 2 rfl).cell 1 rfl
         have d0 := (S9.blk 3 rfl).cell 0 rfl
         have d1 := (S9.blk 3 rfl).cell 1 rfl
         have d2 := (S9.blk 3 rfl).cell 2 rfl)
      | (at_mapUpdate
         refine stp_put (n := out.length) SP rfl rfl rfl rfl rfl hp6 hq6 hll hll ?_
         intro w7 S7
         have x0 := (S7.blk 2 rfl).cell 0 rfl
         have x1 := (S7.blk 2 rfl).cell 1 rfl
         have SC := ((S7.alloc (cs := #[.int .i64 (p : Nat), .int .i64 (q : Nat)]) (ty := 96)).flat (ow_pl (x := (p, q)) hp6 hq6 _)).sel [3, 0, 2, 4, 5])
      | (at_lookup
         refine stp_look S 1 rfl rfl rfl rfl rfl hp6 hq6 ?_
         intro c
         rw [HMET.out]))
    have hRD := HH.out.of (S9.below.mono (Nat.le_refl _))
    have hma := move_any t X (p, q) ta tp tc w9 hRD HX.out hX (by rw [← HN.out]; exact hp) (by show q < 100000; omega)
    rw [HST.out] at hma
    refine hma.mono ?_
    clear hma
    rintro e w10 ⟨rfl, b10⟩
    obtain ⟨mv, hmv⟩ : ∃ m, m = moveAt t X.data.toList (p, q) := ⟨_, rfl⟩
    have HMV := Lib.hid hmv
    have hR2 := HR.out
    rw [← hmv] at hR2 ⊢
    have HR2 := Lib.hid hR2
    replace S9 := S9.step b10
    clear HR hR2 hmv b10 hRD y0 y1 d0 d1 d2
    replace S9 := S9.alloc (cs := #[.int .i64 mv.to, .int .i64 mv.dir]) (ty := 80)
    go_wp2_with fail
    generalize hW : w10.alloc _ = w11 at S9 ⊢
    obtain ⟨g12, hg12⟩ : ∃ g, g = w10.heap.size := ⟨_, rfl⟩
    rw [← hg12] at S9 ⊢
    clear hW hg12
    refine (stops_any mv w11).mono ?_
    rintro e w12 ⟨rfl, b12⟩
    replace S9 := S9.step b12
    clear b12
    have z0 := (S9.blk 0 rfl).cell 0 rfl
    have z1 := (S9.blk 0 rfl).cell 1 rfl
    by_cases hto : mv.to < 0
    case pos =>
      have hd : decide (mv.to < 0) = true := by simpa using hto
      have hR3 : R = (out ++ [(p, q)], if mv.to = -1 then 1 else 2) := by have h := HR2.out; rw [if_pos hto] at h; exact h.symm
      have hvs := verdictOfStop_any mv w12
      generalize (if mv.to = -1 then (1 : Int) else 2) = vd at hvs hR3
      have HR3 := Lib.hid hR3
      rw [hd]
      clear hR3 HR2 hd hto
      go_wp2_with fail
      refine hvs.mono ?_
      rintro e w13 ⟨rfl, b13⟩
      replace S9 := S9.step b13
      clear b13 z0 z1 hvs
      go_wp2
      have hR := HR3.out
      subst hR
      go_ret3
      exact (S9.sel [1, 0]).run
    have hd : decide (mv.to < 0) = false := by simpa using hto
    have hR3 : runGo t X.data.toList (n * m - out.length) (out ++ [(p, q)]) (mv.to.toNat, ((q : Int) + mv.dir).toNat) = R := by have h := HR2.out; rw [if_neg hto] at h; exact h
    have HR3 := Lib.hid hR3
    rw [hd]
    have hnx := move_next HK.out HX.out (p := (p, q)) ⟨by rw [← HN.out]; exact hp, by rw [← HM.out]; exact hq⟩ (by rw [← HMV.out]; exact hto)
    rw [← HMV.out, ← HN.out, ← HM.out] at hnx
    obtain ⟨⟨hn1, hn2⟩, hn3⟩ := hnx
    obtain ⟨p', hp'⟩ : ∃ k : Nat, mv.to = k := ⟨mv.to.toNat, by omega⟩
    obtain ⟨q', hq'⟩ : ∃ k : Nat, (q : Int) + mv.dir = k := ⟨((q : Int) + mv.dir).toNat, by simp only at hn3; omega⟩
    simp only at hn1 hn2 hn3
    rw [hp', hq'] at HR3
    rw [hp'] at hn1
    rw [hq'] at hn2
    rw [Int.toNat_natCast] at hn1 hn2
    rw [Int.toNat_natCast, Int.toNat_natCast] at HR3
    have hdir : mv.dir = (q' : Int) - q := by omega
    have wa : IntKind.i64.wrap ((q : Int) + mv.dir) = (q' : Int) := by rw [hq']; exact IntWalk.i64_in _ ⟨by omega, by omega⟩
    rw [hp'] at z0
    have x0 := (S9.blk 3 rfl).cell 0 rfl
    have x1 := (S9.blk 3 rfl).cell 1 rfl
    have xf := (S9.blk 3 rfl).free
    clear hR3 HR2 hd hto hn3 hp' hdir hq'
    go_wp2
    go_roundw
    case rel => exact ⟨_, out ++ [(p, q)], p', q', rfl, (((S9.sel [3, 1, 2, 4]).set 0 _).set 1 _).sel [1, 2, 0, 3], Lib.hid (by rw [HLL.out, show n * m + 1 - (out.length + 1) = n * m - out.length from by omega]; exact HR3.out), HI2, hn1, hn2⟩
    case measure => simp [slLen]; omega

end Go.Proofs.YtjochoghmpcgdaaDoor
