/-
  The library's Repeat of one product, any number of times.
-/
import Derived.Test.YtaedgicglddihaaOrdTab
import Derived.Test.YtaedgicglddihaaShelfMul
import Derived.Deep.RegionHeld3
import Derived.Deep.DeepFit
namespace Go.Proofs.Ytaedgicglddihaa
open Go.RowKit

theorem mulC (c : Nat) (hc : c ≤ 1000) (w : World) : Calls Try.prog 25 #[.int .u64 1, .int .u64 c] w (Gives (.tuple #[.int .u64 0, .int .u64 c]) w) := by
  have h := Any.bits_Mul Try.layMul 1 c (by omega) (by omega) w
  change Calls Try.prog 25 _ _ _ at h
  rw [Nat.one_mul, show c / 18446744073709551616 = 0 from Nat.div_eq_of_lt (by omega), Nat.mod_eq_of_lt (by omega)] at h
  refine h.mono ?_
  rintro e w1 ⟨rfl, rfl⟩
  exact ⟨rfl, Below.refl _ _⟩

/-- c rows in the making: n of them laid. -/
def prC (p : Value × Value) (c n : Nat) : List Value := (List.replicate n p).flatMap cRaw ++ (List.replicate (c - n) (.int .i64 0, .slice none 0 0)).flatMap cRaw

theorem prC_len (p : Value × Value) (n : Nat) : ((List.replicate n p).flatMap cRaw).length = n * 2 := by rw [raw_len, List.length_replicate]
theorem prC_all (p : Value × Value) (c n : Nat) (h : n ≤ c) : (prC p c n).length = c * 2 := by unfold prC; rw [List.length_append, prC_len, prC_len]; omega

theorem prC_copy (p : Value × Value) (c n m : Nat) (h : n + m ≤ c) : (prC p c n).take (n * 2) ++ (List.replicate m p).flatMap cRaw ++ (prC p c n).drop (n * 2 + ((List.replicate m p).flatMap cRaw).length) = prC p c (n + m) := by
  unfold prC
  rw [List.take_left' (prC_len p n), prC_len, ← List.drop_drop, List.drop_left' (prC_len p n), ← List.replicate_append_replicate, List.flatMap_append, List.append_assoc, List.append_assoc]
  congr 2
  rw [show c - n = m + (c - (n + m)) from by omega, ← List.replicate_append_replicate, List.flatMap_append, List.drop_left' (prC_len _ m)]

theorem prC_src {w : World} {q : Nat} {ty : TypeId} {p : Value × Value} {c n m : Nat} (A : Blk w q (prC p c n) ty) (h : m ≤ n) : ∀ j v, ((List.replicate m p).flatMap cRaw)[j]? = some v → w.cell? ((⟨q, 0, none⟩ : Addr).add j) = some v := by
  intro j v hv
  rw [Addr.add_lit, Nat.zero_add]
  refine A.cell j ?_
  have e : prC p c n = (List.replicate m p).flatMap cRaw ++ ((List.replicate (n - m) p).flatMap cRaw ++ (List.replicate (c - n) (Value.int .i64 0, Value.slice none 0 0)).flatMap cRaw) := by
    unfold prC
    rw [← List.append_assoc, ← List.flatMap_append (xs := List.replicate m p), List.replicate_append_replicate, show m + (n - m) = n from by omega]
  rw [e, List.getElem?_append_left (List.getElem?_eq_some_iff.1 hv).1]
  exact hv

theorem one_raws {p : Value × Value} (h1 : p.1.oneCell' = true) (h2 : p.2.oneCell' = true) (m : Nat) : ∀ v, v ∈ (List.replicate m p).flatMap cRaw → v.oneCell' = true := by
  intro v hv
  obtain ⟨y, hy, hv'⟩ := List.mem_flatMap.1 hv
  obtain ⟨-, rfl⟩ := List.mem_replicate.1 hy
  clear hv
  rcases List.mem_cons.1 hv' with hv | hv
  · rw [hv]; exact h1
  · rw [List.mem_singleton.1 hv]; exact h2

theorem blkL (w : World) (l : List Value) (ty : TypeId) : Blk (w.alloc (.cells l.toArray ty)) w.heap.size l ty := Blk.new w l.toArray ty

theorem rows_zero (n : Nat) : (madeCells (Value.agg #[.int .i64 0, .slice none 0 0]).cells (n * 2)).toList = (List.replicate n (Value.int .i64 0, Value.slice none 0 0)).flatMap cRaw := by
  induction n with
  | zero => simp [madeCells]
  | succ n ih =>
    rw [List.replicate_succ', List.flatMap_append, ← ih]
    unfold madeCells
    simp only [Array.toList_map, Array.toList_range]
    rw [show (n + 1) * 2 = n * 2 + 1 + 1 from by omega, List.range_succ, List.range_succ, List.map_append, List.map_append, List.append_assoc]
    congr 1
    have e1 : n * 2 % 2 = 0 := by omega
    have e2 : (n * 2 + 1) % 2 = 1 := by omega
    simp [Value.cells, cRaw, e1, e2]

set_option maxHeartbeats 4000000 in
set_option maxRecDepth 100000 in
theorem repeat_prod (x : Value × Value) (g cap c : Nat) (hc : 1 ≤ c ∧ c ≤ 1000) (w : World) (hx1 : x.1.oneCell' = true) (hx2 : x.2.oneCell' = true) (h0 : ∀ j v, (cRaw x)[j]? = some v → w.cell? ((⟨g, 0, none⟩ : Addr).add j) = some v) (hg : g < w.heap.size) :
    Calls Try.prog 18 #[.slice (some ⟨g, 0, none⟩) 1 cap, .int .i64 c] w (fun e w' => ∃ q, e = .returned (.slice (some ⟨q, 0, none⟩) c c) ∧ Blk w' q ((List.replicate c x).flatMap cRaw) 40 ∧ w.heap.size ≤ q ∧ Below w.heap.size w w') := by
  obtain ⟨i, hi, hz0, hz1, hz2⟩ := info_parts inf_ProductS
  have hsz : (Try.prog.info? 40).map (·.size) = some 2 := by rw [hi]; exact congrArg some hz1
  have hmk := fun w => make_runs (P := Try.prog) Try.underlying37 hi hz0 hz1 c (by rw [hz2]; omega) (by omega) w
  have hmc : (madeCells (Value.agg #[.int .i64 0, .slice none 0 0]).cells (c * 2)) = (prC x c 0).toArray := by
    rw [← Array.toList_inj, rows_zero]
    unfold prC
    simp
  rw [hmc] at hmk
  have hmul := Lib.hid (mulC c hc.2)
  have HZ := Lib.hid hsz
  obtain ⟨post, hpost⟩ : ∃ p, p = (List.replicate c x).flatMap cRaw := ⟨_, rfl⟩
  rw [← hpost]
  have HP := Lib.hid hpost
  have H0 : Hid (∀ n m, n + m ≤ c → (prC x c n).take (n * 2) ++ (List.replicate m x).flatMap cRaw ++ (prC x c n).drop (n * 2 + ((List.replicate m x).flatMap cRaw).length) = prC x c (n + m)) := Lib.hid (prC_copy x c)
  obtain ⟨L, hL⟩ : ∃ L : Nat → List Value, L = prC x c := ⟨_, rfl⟩
  rw [← hL] at H0 hmk
  have HL := Lib.hid hL
  have hll : Hid (∀ n, n ≤ c → (L n).length = c * 2) := Lib.hid (fun n hn => by rw [hL]; exact prC_all x c n hn)
  clear hi hz0 hz1 hz2 hmc hL hpost hsz
  go_enter Try.func18, Try.ntmps18
  go_wp2_with fail
  refine (hmul.out w).mono ?_
  rintro e w1 ⟨rfl, b⟩
  obtain ⟨W, hW⟩ : ∃ W, W = w1.alloc (.cells (L 0).toArray 40) := ⟨_, rfl⟩
  have HA1 : Hid (Blk W w1.heap.size (L 0) 40) := Lib.hid (by rw [hW]; exact blkL w1 (L 0) _)
  have hb0 : Below w.heap.size w W := by rw [hW]; exact b.alloc b.size _
  have HA2 : Hid (∀ j v, (cRaw x)[j]? = some v → W.cell? ((⟨g, 0, none⟩ : Addr).add j) = some v) := Lib.hid (fun j v hv => by
    have := h0 j v hv
    rw [Addr.add_lit] at this ⊢
    exact (hb0.cell (p := ⟨g, 0 + j, none⟩) hg).trans this)
  have HA3 : Hid (0 + (cRaw x).length ≤ (L 0).length) := Lib.hid (by rw [hll.out 0 (by omega)]; simp [cRaw]; omega)
  have HB0 := Lib.hid hb0; clear hb0
  have hs1 := b.size
  have HF : Hid (List.take 0 (L 0) ++ cRaw x ++ List.drop (0 + (cRaw x).length) (L 0) = L 1) := Lib.hid (by simpa [cRaw] using H0.out 0 1 (by omega))
  have HO : Hid (∀ v, v ∈ cRaw x → v.oneCell' = true) := Lib.hid (by simpa using one_raws hx1 hx2 1)
  have hmin : Hid (1 = Nat.min 1 c) := Lib.hid (by show 1 = min 1 c; omega)
  subst hW
  go_wp2_with (refine wpList_copy_wide rfl (.tmp 31) (.tmp 32) 37 37 rfl 40 2 Try.underlying37 HZ.out w1.heap.size 0 _ _ ⟨g, 0, none⟩ 1 cap rfl rfl (L 0) 40 HA1.out (cRaw x) 1 hmin.out rfl HA2.out HA3.out HO.out (L 1) HF.out _ w HB0.out hs1 ?_; intro w2 HA1' B1)
  have A1 := HA1'.out
  obtain ⟨q, hq⟩ : ∃ q, q = w1.heap.size := ⟨_, rfl⟩
  rw [← hq] at A1 hs1 ⊢
  clear HA1 HA2 HA3 HB0 HF HA1' hq HO hmin
  go_loopw [8] (fun s wr => ∃ n : Nat, 1 ≤ n ∧ n ≤ c ∧ s = .int .i64 n ∧ Blk wr q (L n) 40 ∧ Below w.heap.size w wr) (fun s _ => c - (intOf s).toNat)
  case atStart => exact ⟨1, by omega, by omega, rfl, A1, B1⟩
  case round =>
    clear A1 B1
    obtain ⟨n, hn1, hn, rfl, A1, B1⟩ := hrel
    by_cases hlt : n < c
    case neg =>
      obtain rfl : n = c := by omega
      go_wp2
      go_ret
      rw [HL.out] at A1
      have e : prC x n n = post := by rw [HP.out]; simp [prC]
      rw [e] at A1
      exact ⟨q, rfl, A1, hs1, B1⟩
    have HAL := Lib.hid A1
    have HBL := Lib.hid B1
    have hsq := A1.lt
    clear A1 B1
    obtain ⟨m, hm⟩ : ∃ m, m = min n (c - n) := ⟨_, rfl⟩
    have hm1 : 1 ≤ m := by omega
    have hm2 : m ≤ n := by omega
    have hm3 : n + m ≤ c := by omega
    have A2 := prC_src (m := m) (HL.out ▸ HAL.out) hm2
    have A3 : n * 2 + ((List.replicate m x).flatMap cRaw).length ≤ (L n).length := by rw [hll.out n (by omega), prC_len]; omega
    have A4 := H0.out n m hm3
    have A5 : ((List.replicate m x).flatMap cRaw).length = m * 2 := prC_len x m
    have HA2 := Lib.hid A2; have HA3 := Lib.hid A3; have HA4 := Lib.hid A4; have HA5 := Lib.hid A5
    clear A2 A3 A4 A5
    obtain ⟨Y, hY⟩ : ∃ Y, Y = (List.replicate m x).flatMap cRaw := ⟨_, rfl⟩
    rw [← hY] at HA2 HA3 HA4 HA5
    have HO := Lib.hid (one_raws hx1 hx2 m); rw [← hY] at HO
    have HY := Lib.hid hY; clear hY
    have HM : Hid (m = Nat.min n (c - n)) := Lib.hid hm
    clear hm
    have hne : ¬ c = n := by omega
    have wnm : IntKind.i64.wrap ((n : Int) + (m : Int)) = (n : Int) + (m : Int) := IntWalk.i64_in _ ⟨by omega, by omega⟩
    go_wp2_with fail
    go_region_held3 (fun w' => q < w'.heap.size) (first | exact hsq | exact HA6.out.lt | go_keep) (first | (go_must (refine step_copy_wide rfl (.tmp 41) (.tmp 44) 37 37 rfl 40 2 Try.underlying37 HZ.out q (n * 2) _ _ ⟨q, 0, none⟩ _ _ rfl rfl (L n) 40 (by exact HAL.out) Y m HM.out HA5.out (by exact HA2.out) HA3.out HO.out (L (n + m)) HA4.out _ w (by first | exact HBL.out | exact HBL.out.drew) hs1 ?_); intro w3 HA6 B3))
    all_goals go_wp2
    go_roundw
    case rel => exact ⟨n + m, by omega, by omega, by simp [wnm], HA6.out, B3⟩
    case measure => simp [intOf, wnm]; omega

end Go.Proofs.Ytaedgicglddihaa
