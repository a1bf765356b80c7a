/-
  The specification's run of a turner on a word.
-/
import Derived.Test.YtjochoghmpcgdaaDoorPackB
import Derived.Test.YtjochoghmpcgdaaDoorPackC
import Derived.Test.YtjochoghmpcgdaaDoorPackA
import Derived.Deep.DeepCutAuto
namespace Go.Proofs.YtjochoghmpcgdaaDoor
open Go.RowKit

/-- Which places are met, in cells. -/
structure SeenIs (n m : Nat) (cs : List Value) (out : List Pl) : Prop where
  len : cs.length = n * m
  get : ∀ p q, p < n → q < m → ∃ k : Nat, cs[p * m + q]? = some (.int .i64 (k : Nat)) ∧ k < 1000000 ∧ (0 < k ↔ out.contains (p, q) = true)

theorem at_lt {n m p q : Nat} (hp : p < n) (hq : q < m) : p * m + q < n * m := by
  have h := Nat.mul_le_mul_right m (show p + 1 ≤ n by omega)
  rw [Nat.add_mul] at h
  omega

theorem at_inj {m p q p' q' : Nat} (hq : q < m) (hq' : q' < m) (h : p * m + q = p' * m + q') : (p, q) = (p', q') := by
  have hn : 0 < m := by omega
  have e1 : (p * m + q) / m = (p' * m + q') / m := by rw [h]
  have e2 : (p * m + q) % m = (p' * m + q') % m := by rw [h]
  rw [Nat.mul_comm, Nat.mul_add_div hn, Nat.mul_comm, Nat.mul_add_div hn, Nat.div_eq_of_lt hq, Nat.div_eq_of_lt hq'] at e1
  rw [Nat.mul_comm, Nat.mul_add_mod, Nat.mul_comm, Nat.mul_add_mod, Nat.mod_eq_of_lt hq, Nat.mod_eq_of_lt hq'] at e2
  exact Prod.ext (by omega) e2

theorem SeenIs.none (n m : Nat) : SeenIs n m (List.replicate (n * m) (.int .i64 0)) [] := ⟨List.length_replicate, fun p q hp hq => ⟨0, by rw [List.getElem?_replicate, if_pos (at_lt hp hq)]; rfl, by omega, by simp⟩⟩

theorem SeenIs.put {n m : Nat} {cs : List Value} {out : List Pl} (h : SeenIs n m cs out) {p q k : Nat} (hp : p < n) (hq : q < m) (hk : 0 < k) (hk2 : k < 1000000) : SeenIs n m (cs.set (p * m + q) (.int .i64 (k : Nat))) (out ++ [(p, q)]) := by
  refine ⟨by rw [List.length_set]; exact h.len, fun p' q' hp' hq' => ?_⟩
  by_cases he : (p', q') = (p, q)
  · cases he
    refine ⟨k, by rw [List.getElem?_set_self (by rw [h.len]; exact at_lt hp hq)], hk2, by simp [hk]⟩
  · obtain ⟨k', h1, h2, h3⟩ := h.get p' q' hp' hq'
    refine ⟨k', by rw [List.getElem?_set_ne (fun e => he (at_inj hq hq' e).symm)]; exact h1, h2, h3.trans ?_⟩
    simp only [List.contains_eq_mem, decide_eq_true_eq, List.mem_append, List.mem_singleton]
    exact ⟨.inl, fun h => h.elim id fun h => absurd h he⟩

theorem inf_int0 : (Tryd.prog.info? 3).map (fun i => (i.zero, i.size, i.bytes)) = some (some (.int .i64 0), 1, 8) := by kernel_rfl

set_option maxHeartbeats 16000000 in
set_option maxRecDepth 100000 in
theorem srun_any (t : Turner) (X : ByteArray) (R : List Pl × Int) (g : Nat) (w : World) (h : RdP t w g) (hx : wordOk t.letters.toNat X.data.toList) (hX : X.size ≤ 1000) (hR : runT t X.data.toList = R) :
    Calls Tryd.prog 56 #[.pointer (some ⟨g, 0, none⟩), .string X] w (RunIs R w) := by
  obtain ⟨ta, tp, tc, c0, c1, c2, hr⟩ := h.get
  have K := hr.ok
  have hl : X.data.toList.length = X.size := by rw [Array.length_toList]; rfl
  obtain ⟨n, hn⟩ : ∃ n, n = t.moves.length := ⟨_, rfl⟩
  obtain ⟨m, hm⟩ : ∃ m, m = X.data.toList.length + 2 := ⟨_, rfl⟩
  have hn12 : n ≤ 12 := by rw [hn]; exact K.n12
  have hm1 : m ≤ 1002 := by omega
  have hnm : n * m ≤ 12 * 1002 := Nat.mul_le_mul hn12 hm1
  have hm0 : 2 ≤ m := by omega
  obtain ⟨N, hN⟩ : ∃ N, N = n * m := ⟨_, rfl⟩
  obtain ⟨st, hst⟩ : ∃ s : Nat, t.start = s := ⟨t.start.toNat, by have := K.s0; omega⟩
  have hstn : st < n := by have := K.s1; omega
  have hR2 : runGo t X.data.toList (N + 1) [] (st, 0) = R := by
    rw [← hR, hN]; unfold runT placesN; rw [hst, hn, hm]; rfl
  have hmX : (X.size : Int) + 2 = (m : Int) := by omega
  have wm1 : IntKind.i64.wrap ((X.size : Int) + 2) = (m : Int) := by rw [hmX]; exact IntWalk.i64_in _ ⟨by omega, by omega⟩
  have wm2 : IntKind.i64.wrap ((n : Int) * (m : Int)) = (N : Int) := by rw [hN, Int.natCast_mul]; exact IntWalk.i64_in _ ⟨by rw [← Int.natCast_mul]; omega, by rw [← Int.natCast_mul]; omega⟩
  rw [← hN] at hnm
  rw [hst] at c1
  rw [← hn] at c2
  obtain ⟨i0, hi, hz0, hz1, hz2⟩ := info_parts inf_int0
  have hmk := make_run (P := Tryd.prog) Tryd.underlying134 hi hz0 hz1 N (by rw [hz2]; omega) (by omega)
  have HG0 := Lib.hid hR2
  have HH := Lib.hid h; have HK := Lib.hid K; have HN := Lib.hid hn; have HM := Lib.hid hm; have HX := Lib.hid hx; have HST := Lib.hid hst; have HNN := Lib.hid hN
  clear hR hR2 hl hst K h hx hm hn hN hr hmX
  have gl := World.block_lt_of_cell? w _ c1
  have S := (((((Star.nil w).alloc (cs := madeCells #[.int .i64 0] N) (ty := 3)).alloc (cs := #[]) (ty := 96)).lit0 (E := plE)).alloc (cs := #[.int .i64 (st : Nat), .int .i64 0]) (ty := 96)).sel [1, 2, 0]
  rw [toList_madeCells_one, World.size_alloc, World.size_alloc] at S
  go_enter Tryd.func56, Tryd.ntmps56
  go_wp2_with fail
  generalize hW : ((w.alloc _).alloc _).alloc _ = w0 at S ⊢
  obtain ⟨gs, hgs⟩ : ∃ g, g = w.heap.size := ⟨_, rfl⟩
  rw [← hgs] at S ⊢
  obtain ⟨g8, hg8⟩ : ∃ g, g = gs + 1 := ⟨_, rfl⟩
  rw [← hg8] at S ⊢
  obtain ⟨g9, hg9⟩ : ∃ g, g = g8 + 1 := ⟨_, rfl⟩
  rw [← hg9] at S ⊢
  clear hW hgs hg8 hg9 hmk c0 c1 c2 gl
  have HI0 : Hid (InvR n m []) := Lib.hid ⟨fun p hp => (by cases hp), List.nodup_nil⟩
  have HS0 : Hid (SeenIs n m (List.replicate N (.int .i64 0)) []) := Lib.hid (by rw [HNN.out]; exact SeenIs.none n m)
  go_loopw [8] (fun vl wr => ∃ (v : Value) (out : List Pl) (p q : Nat) (cs : List Value), vl = v ∧ Star w wr [oE plsE [v] out, oB gs cs 3, oB g9 [.int .i64 (p : Nat), .int .i64 (q : Nat)] 96] ∧ Hid (runGo t X.data.toList (N + 1 - out.length) out (p, q) = R) ∧ Hid (InvR n m out) ∧ Hid (SeenIs n m cs out) ∧ p < n ∧ q < m) (fun vl _ => N + 1 - slLen vl)
  case atStart => exact ⟨_, [], st, 0, _, rfl, S, HG0, HI0, HS0, hstn, by omega⟩
  case round =>
    clear S HG0 HI0 HS0
    obtain ⟨v, out, p, q, cs, rfl, S, HG, HI, HS, hp, hq⟩ := hrel
    obtain ⟨va, vc, rfl⟩ := S.slen 0 rfl
    have hlen := HI.out.len
    rw [← HNN.out] at hlen
    have hp6 : p < 1000000 := by omega
    have hq6 : q < 1000000 := by omega
    have hll2 : out.length ≤ 1000000000000 := by omega
    have e0 := (S.blk 2 rfl).cell 0 rfl
    have e1 := (S.blk 2 rfl).cell 1 rfl
    have hG2 : (if out.contains (p, q) then (out, 3) else
      if (moveAt t X.data.toList (p, q)).to < 0 then (out ++ [(p, q)], if (moveAt t X.data.toList (p, q)).to = -1 then 1 else 2)
      else runGo t X.data.toList (N - out.length) (out ++ [(p, q)]) ((moveAt t X.data.toList (p, q)).to.toNat, ((q : Int) + (moveAt t X.data.toList (p, q)).dir).toNat)) = R := by
      have h := HG.out
      rw [show N + 1 - out.length = (N - out.length) + 1 from by omega, runGo] at h
      exact h
    have HG2 := Lib.hid hG2
    clear hG2 HG
    have hk := at_lt hp hq
    rw [← HNN.out] at hk
    obtain ⟨kk, k1, k2, k3⟩ := HS.out.get p q hp hq
    have HCL := HS.out.len
    rw [← HNN.out] at HCL
    obtain ⟨u, hu⟩ : ∃ u, u = p * m := ⟨_, rfl⟩
    have HU := Lib.hid hu
    have wp1 : IntKind.i64.wrap ((p : Int) * (m : Int)) = (u : Int) := by rw [hu, Int.natCast_mul]; exact IntWalk.i64_in _ ⟨by rw [← Int.natCast_mul]; omega, by rw [← Int.natCast_mul]; omega⟩
    rw [← hu] at k1 hk
    obtain ⟨k, hkk⟩ : ∃ k, k = u + q := ⟨_, rfl⟩
    have HKK := Lib.hid hkk
    have wp2 : IntKind.i64.wrap ((u : Int) + (q : Int)) = (k : Int) := by rw [hkk, Int.natCast_add]; exact IntWalk.i64_in _ ⟨by omega, by omega⟩
    rw [← hkk] at k1 hk
    have i1 : (0 : Int) ≤ (k : Int) := by omega
    have i2 : (k : Int) < (N : Int) := by omega
    have sc := (S.blk 1 rfl).cell k k1
    have hkcs : k < cs.length := by rw [HCL]; exact hk
    have HCL := Lib.hid HCL
    clear hu hkk k1
    cases hmet : out.contains (p, q)
    case true =>
      have hR : R = (out, 3) := by rw [← HG2.out, hmet]; rfl
      have hk0 : 0 < kk := k3.2 hmet
      have hk1 : (0 : Int) < (kk : Int) := by omega
      have ws : IntKind.i64.wrap ((kk : Int) - 1) = (kk : Int) - 1 := IntWalk.i64_in _ ⟨by omega, by omega⟩
      clear hmet HG2 k3
      go_wp2
      go_quiet (fail)
      go_wp2
      subst hR
      go_ret3
      exact (S.step (below_drewN (Below.refl _ _) _)).run
    have hR : (if (moveAt t X.data.toList (p, q)).to < 0 then (out ++ [(p, q)], if (moveAt t X.data.toList (p, q)).to = -1 then 1 else 2)
      else runGo t X.data.toList (N - out.length) (out ++ [(p, q)]) ((moveAt t X.data.toList (p, q)).to.toNat, ((q : Int) + (moveAt t X.data.toList (p, q)).dir).toNat)) = R := by rw [← HG2.out, hmet]; rfl
    have HR := Lib.hid hR
    have HI2 := Lib.hid (HI.out.snoc (p := (p, q)) ⟨hp, hq⟩ hmet)
    have hk0 : kk = 0 := by
      rcases Nat.eq_zero_or_pos kk with h | h
      · exact h
      · rw [k3.1 h] at hmet; cases hmet
    subst hk0
    replace sc : wr.cell? ⟨gs, k, none⟩ = some (.int .i64 0) := sc
    clear hmet HG2 hR k3 k2
    have hlen2 := HI2.out.len
    rw [List.length_append, List.length_singleton, ← HNN.out] at hlen2
    have hll3 : (out ++ [(p, q)]).length = out.length + 1 := by rw [List.length_append, List.length_singleton]
    have HLL := Lib.hid hll3
    have HS2 := Lib.hid (HS.out.put (p := p) (q := q) (k := out.length + 1) hp hq (by omega) (by omega))
    rw [← HU.out, ← HKK.out] at HS2
    have SB := ((S.alloc (cs := #[.int .i64 (p : Nat), .int .i64 (q : Nat)]) (ty := 96)).flat (ow_pl (x := (p, q)) hp6 hq6 _)).sel [2, 0, 3, 4]
    clear hll3
    go_upto_region 9 with (at_builtin; refine st1_PlS SB rfl rfl rfl rfl cell_a1 (one_mem2 rfl rfl) hll2 ?_; intro ja jn jc w9 S9; have sk := (S9.blk 1 rfl).cell k (List.getElem?_eq_getElem hkcs); have sf := (S9.blk 1 rfl).free; obtain ⟨ka, kc, hv⟩ := S9.slen 0 rfl; simp only [Value.slice.injEq] at hv; obtain ⟨rfl, rfl, rfl⟩ := hv; rw [HLL.out] at S9 ⊢)
    replace S := (S9.sel [1, 0, 2]).set k (.int .i64 ((out.length : Int) + 1))
    clear S9 sk sf SB
    generalize hW : w9.setCell _ _ = w10 at S ⊢
    clear hW
    have hcv : Value.int .i64 ((out.length : Int) + 1) = .int .i64 ((out.length + 1 : Nat) : Int) := by rw [Int.natCast_add]; rfl
    rw [hcv] at S
    clear hcv
    replace S := S.sel [1, 0, 2]
    have y0 := (S.blk 2 rfl).cell 0 rfl
    have y1 := (S.blk 2 rfl).cell 1 rfl
    go_wp2_with fail
    have hRD := HH.out.of (S.below.mono (Nat.le_refl _))
    refine (smove_any t g X (p, q) w10 hRD HX.out hX (by rw [← HN.out]; exact hp) (by rw [← HM.out]; exact hq)).mono ?_
    rintro e w11 ⟨rfl, b11⟩
    obtain ⟨mv, hmv⟩ : ∃ m, m = moveAt t X.data.toList (p, q) := ⟨_, rfl⟩
    have HMV := Lib.hid hmv
    have hR2 := HR.out
    rw [← hmv] at hR2 ⊢
    have HR2 := Lib.hid hR2
    replace S := S.step b11
    clear HR hR2 hmv b11 hRD y0 y1
    replace S := S.alloc (cs := #[.int .i64 mv.to, .int .i64 mv.dir]) (ty := 80)
    go_upto_region 10 with fail
    generalize hW : w11.alloc _ = w12 at S ⊢
    obtain ⟨g11, hg11⟩ : ∃ g, g = w11.heap.size := ⟨_, rfl⟩
    rw [← hg11] at S ⊢
    clear hW hg11
    have z0 := (S.blk 0 rfl).cell 0 rfl
    have z1 := (S.blk 0 rfl).cell 1 rfl
    by_cases hto : mv.to < 0
    case pos =>
      have hR3 : R = (out ++ [(p, q)], if mv.to = -1 then 1 else 2) := by have h := HR2.out; rw [if_pos hto] at h; exact h.symm
      have hst := move_stop HK.out HX.out (p := (p, q)) (by rw [← HN.out]; exact hp) (by rw [← HMV.out]; exact hto)
      rw [← HMV.out] at hst
      clear HR2 hto
      rcases hst with h1 | h1
      · have hR4 : R = (out ++ [(p, q)], 1) := by rw [hR3, if_pos h1]
        have HR4 := Lib.hid hR4
        rw [h1] at z0
        clear hR3 hR4 h1
        go_wp2
        have hR := HR4.out
        subst hR
        go_ret3
        exact (S.sel [1, 0]).run
      · have hR4 : R = (out ++ [(p, q)], 2) := by rw [hR3, if_neg (by omega)]
        have HR4 := Lib.hid hR4
        rw [h1] at z0
        clear hR3 hR4 h1
        go_wp2
        have hR := HR4.out
        subst hR
        go_ret3
        exact (S.sel [1, 0]).run
    have hR3 : runGo t X.data.toList (N - out.length) (out ++ [(p, q)]) (mv.to.toNat, ((q : Int) + mv.dir).toNat) = R := by have h := HR2.out; rw [if_neg hto] at h; exact h
    have HR3 := Lib.hid hR3
    have hnx := move_next HK.out HX.out (p := (p, q)) ⟨by rw [← HN.out]; exact hp, by rw [← HM.out]; exact hq⟩ (by rw [← HMV.out]; exact hto)
    rw [← HMV.out, ← HN.out, ← HM.out] at hnx
    obtain ⟨⟨hn1, hn2⟩, hn3⟩ := hnx
    obtain ⟨p', hp'⟩ : ∃ k : Nat, mv.to = k := ⟨mv.to.toNat, by omega⟩
    obtain ⟨q', hq'⟩ : ∃ k : Nat, (q : Int) + mv.dir = k := ⟨((q : Int) + mv.dir).toNat, by simp only at hn3; omega⟩
    simp only at hn1 hn2 hn3
    rw [hp', hq'] at HR3
    rw [hp'] at hn1
    rw [hq'] at hn2
    rw [Int.toNat_natCast] at hn1 hn2
    rw [Int.toNat_natCast, Int.toNat_natCast] at HR3
    have wa : IntKind.i64.wrap ((q : Int) + mv.dir) = (q' : Int) := by rw [hq']; exact IntWalk.i64_in _ ⟨by omega, by omega⟩
    rw [hp'] at z0
    have n1 : ((p' : Int) == -1) = false := beq_eq_false_iff_ne.2 (by omega)
    have n2 : ((p' : Int) == -2) = false := beq_eq_false_iff_ne.2 (by omega)
    have x0 := (S.blk 3 rfl).cell 0 rfl
    have x1 := (S.blk 3 rfl).cell 1 rfl
    have xf := (S.blk 3 rfl).free
    clear hR3 HR2 hto hn3 hp' hq'
    go_wp2
    go_roundw
    case rel => exact ⟨_, out ++ [(p, q)], p', q', _, rfl, (((S.sel [3, 1, 2]).set 0 _).set 1 _).sel [1, 2, 0], Lib.hid (by rw [HLL.out, show N + 1 - (out.length + 1) = N - out.length from by omega]; exact HR3.out), HI2, HS2, hn1, hn2⟩
    case measure => simp [slLen]; omega

end Go.Proofs.YtjochoghmpcgdaaDoor
