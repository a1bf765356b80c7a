/-
  The library's Repeat of one move, one to five times.
-/
import Derived.Test.YtnkhgfdlehhjmaaDoorPackA
import Derived.Test.YtnkhgfdlehhjmaaDoorPackB
import Derived.Deep.RegionHeld3
namespace Go.Proofs.YtnkhgfdlehhjmaaDoor
open Go.RowKit

theorem mul64_one (c : Nat) (hc : 1 ≤ c ∧ c ≤ 5) (w : World) : Calls Tryd.prog 100 #[.int .u64 1, .int .u64 c] w (Gives (.tuple #[.int .u64 0, .int .u64 c]) w) := by
  have hc : c = 1 ∨ c = 2 ∨ c = 3 ∨ c = 4 ∨ c = 5 := by omega
  rcases hc with rfl | rfl | rfl | rfl | rfl
  all_goals
    go_enter Tryd.func100, Tryd.ntmps100
    go_wp2
    exact bodyPost_ret (v := .tuple #[.int .u64 0, .int .u64 _]) (by simp [results, Tryd.results100, go_sem]; rfl) rfl ⟨rfl, Below.refl _ _⟩

theorem mul_one (c : Nat) (hc : 1 ≤ c ∧ c ≤ 5) (w : World) : Calls Tryd.prog 84 #[.int .u64 1, .int .u64 c] w (Gives (.tuple #[.int .u64 0, .int .u64 c]) w) := by
  have h := mul64_one c hc w
  have hc : c = 1 ∨ c = 2 ∨ c = 3 ∨ c = 4 ∨ c = 5 := by omega
  rcases hc with rfl | rfl | rfl | rfl | rfl
  all_goals
    go_enter Tryd.func84, Tryd.ntmps84
    go_wp2_with fail
    refine h.mono ?_
    rintro e w1 ⟨rfl, b⟩
    go_wp2
    exact bodyPost_ret (v := .tuple #[.int .u64 0, .int .u64 _]) (by simp [results, Tryd.results84, go_sem]) rfl ⟨rfl, b⟩

/-- c moves in the making: n of them laid. -/
def repC (x : Move) (c n : Nat) : List Value := (List.replicate n x).flatMap cMove ++ List.replicate ((c - n) * 2) (.int .i64 0)

theorem repC_len (x : Move) (n : Nat) : ((List.replicate n x).flatMap cMove).length = n * 2 := by
  rw [flatMap_len cMove 2 (fun _ => rfl), List.length_replicate]

theorem repC_copy (x : Move) (c n m : Nat) (h : n + m ≤ c) : (repC x c n).take (n * 2) ++ (List.replicate m x).flatMap cMove ++ (repC x c n).drop (n * 2 + ((List.replicate m x).flatMap cMove).length) = repC x c (n + m) := by
  unfold repC
  rw [List.take_left' (repC_len x n), repC_len, ← List.drop_drop, List.drop_left' (repC_len x n), List.drop_replicate, ← List.replicate_append_replicate, List.flatMap_append]
  congr 2
  omega

theorem repC_src {w : World} {q : Nat} {ty : TypeId} {x : Move} {c n m : Nat} (A : Blk w q (repC x c n) ty) (h : m ≤ n) : ∀ j v, ((List.replicate m x).flatMap cMove)[j]? = some v → w.cell? ((⟨q, 0, none⟩ : Addr).add j) = some v := by
  intro j v hv
  rw [Addr.add_lit, Nat.zero_add]
  refine A.cell j ?_
  have e : repC x c n = (List.replicate m x).flatMap cMove ++ ((List.replicate (n - m) x).flatMap cMove ++ List.replicate ((c - n) * 2) (.int .i64 0)) := by
    unfold repC
    rw [← List.append_assoc, ← List.flatMap_append, List.replicate_append_replicate, show m + (n - m) = n from by omega]
  rw [e, List.getElem?_append_left (List.getElem?_eq_some_iff.1 hv).1]
  exact hv

theorem one_moves (x : Move) (m : Nat) : ∀ v, v ∈ (List.replicate m x).flatMap cMove → v.oneCell' = true := by
  intro v hv
  obtain ⟨y, _, hy⟩ := List.mem_flatMap.1 hv
  simp [cMove] at hy
  rcases hy with rfl | rfl <;> rfl

theorem blk_list (w : World) (l : List Value) (ty : TypeId) : Blk (w.alloc (.cells l.toArray ty)) w.heap.size l ty := Blk.new w l.toArray ty

theorem src_alloc {w : World} {a : Addr} {v : Value} (h : w.cell? a = some v) (o : Obj) : (w.alloc o).cell? a = some v := (((Below.refl w.heap.size w).alloc (Nat.le_refl _) o).cell (World.block_lt_of_cell? w _ h)).trans h

theorem src_move {w : World} {x : Move} {g o : Nat} (h0 : w.cell? ⟨g, o, none⟩ = some (.int .i64 x.to)) (h1 : w.cell? ⟨g, o + 1, none⟩ = some (.int .i64 x.dir)) : ∀ j v, (cMove x)[j]? = some v → w.cell? ((⟨g, o, none⟩ : Addr).add j) = some v := by
  intro j v hv
  rw [Addr.add_lit]
  match j with
  | 0 => have : Value.int .i64 x.to = v := by simpa [cMove] using hv
         subst this; exact h0
  | 1 => have : Value.int .i64 x.dir = v := by simpa [cMove] using hv
         subst this; exact h1
  | j + 2 => simp [cMove] at hv

theorem one_move (x : Move) : ∀ v, v ∈ cMove x → v.oneCell' = true := by
  intro v hv
  simp [cMove] at hv
  rcases hv with rfl | rfl <;> rfl

/-- A call that hands back a slice whose block is given. -/
def Block (cs : List Value) (ty : TypeId) (n : Nat) (w : World) (e : Ending) (w' : World) : Prop := ∃ q, e = .returned (.slice (some ⟨q, 0, none⟩) n n) ∧ Blk w' q cs ty ∧ w.heap.size ≤ q ∧ Below w.heap.size w w'

theorem Star.blocked {w0 w w' : World} {ps : List Ob} {cs : List Value} {ty : TypeId} {q : Nat} (S : Star w0 w ps) (h : Blk w' q cs ty) (lo : w.heap.size ≤ q) (hb : Below w.heap.size w w') : Star w0 w' (oB q cs ty :: ps) :=
  S.push (f := [q]) hb ⟨h, rfl⟩ (by simp) (fun b hb => by have e : b = q := by simpa using hb
                                                          omega) (fun b hb => by have e : b = q := by simpa using hb
                                                                                 have := h.lt; omega)

set_option maxHeartbeats 4000000 in
set_option maxRecDepth 100000 in
theorem repeat_moves (x : Move) (g cap c : Nat) (hc : 1 ≤ c ∧ c ≤ 5) (w : World) (h0 : w.cell? ⟨g, 0, none⟩ = some (.int .i64 x.to)) (h1 : w.cell? ⟨g, 1, none⟩ = some (.int .i64 x.dir)) :
    Calls Tryd.prog 61 #[.slice (some ⟨g, 0, none⟩) 1 cap, .int .i64 c] w (Block ((List.replicate c x).flatMap cMove) 65 c w) := by
  have hg := World.block_lt_of_cell? w _ h0
  obtain ⟨i, hi, hz0, hz1, hz2⟩ := info_parts inf_MoveS
  have hsz : (Tryd.prog.info? 65).map (·.size) = some 2 := by rw [hi]; exact congrArg some hz1
  have hmk := fun w => make_runs (P := Tryd.prog) Tryd.underlying66 hi hz0 hz1 c (by rw [hz2]; omega) (by omega) w
  have hmc : (madeCells (Value.agg #[.int .i64 0, .int .i64 0]).cells (c * 2)) = (repC x c 0).toArray := by
    have := made_alike #[.int .i64 0, .int .i64 0] (.int .i64 0) (by intro i hi; match i, hi with | 0, _ => rfl | 1, _ => rfl) (by decide) (c * 2)
    unfold repC
    rw [← Array.toList_inj]
    exact this.trans (by simp)
  rw [hmc] at hmk
  have hmul := Lib.hid (mul_one c hc)
  have HMK := Lib.hid hmk
  have HZ := Lib.hid hsz
  obtain ⟨post, hpost⟩ : ∃ p, p = (List.replicate c x).flatMap cMove := ⟨_, rfl⟩
  rw [← hpost]
  have HP := Lib.hid hpost
  have H0 : Hid (∀ n m, n + m ≤ c → (repC x c n).take (n * 2) ++ (List.replicate m x).flatMap cMove ++ (repC x c n).drop (n * 2 + ((List.replicate m x).flatMap cMove).length) = repC x c (n + m)) := Lib.hid (repC_copy x c)
  obtain ⟨L, hL⟩ : ∃ L : Nat → List Value, L = repC x c := ⟨_, rfl⟩
  rw [← hL] at H0 HMK
  have HL := Lib.hid hL
  have hll : Hid (∀ n, n ≤ c → (L n).length = c * 2) := Lib.hid (fun n hn => by rw [hL]; unfold repC; rw [List.length_append, repC_len, List.length_replicate]; omega)
  clear hi hz0 hz1 hz2 hmc hmk hL hpost hsz
  have hc : c = 1 ∨ c = 2 ∨ c = 3 ∨ c = 4 ∨ c = 5 := by omega
  rcases hc with rfl | rfl | rfl | rfl | rfl
  · have hmk : ∀ w, (Instr.makeSlice 66 (.int .i64 1) (.int .i64 1)).run Tryd.prog w = .ok (.slice (some ⟨w.heap.size, 0, none⟩) 1 1) (w.alloc (.cells (L 0).toArray 65)) := HMK.out
    go_enter Tryd.func61, Tryd.ntmps61
    go_wp2_with fail
    refine (hmul.out w).mono ?_
    rintro e w1 ⟨rfl, b⟩
    have d0 := (b.cell (p := ⟨g, 0, none⟩) hg).trans h0
    have d1 := (b.cell (p := ⟨g, 1, none⟩) hg).trans h1
    have A1 := blk_list w1 (L 0) 65
    have A2 := src_move (src_alloc d0 (.cells (L 0).toArray 65)) (src_alloc d1 (.cells (L 0).toArray 65))
    have A3 : 0 + (cMove x).length ≤ (L 0).length := by rw [hll.out 0 (by omega)]; simp [cMove]
    have hb0 : Below w.heap.size w (w1.alloc (.cells (L 0).toArray 65)) := b.alloc b.size _
    have hs1 := b.size
    have HA1 := Lib.hid A1; clear A1
    have HA2 := Lib.hid A2; clear A2
    have HA3 := Lib.hid A3; clear A3
    have HB0 := Lib.hid hb0; clear hb0
    have hfirst : List.take 0 (L 0) ++ cMove x ++ List.drop (0 + (cMove x).length) (L 0) = L 1 := by simpa using H0.out 0 1 (by omega)
    have HF := Lib.hid hfirst; clear hfirst
    go_wp2_with (refine wpList_copy_wide rfl (.tmp 31) (.tmp 32) 66 66 rfl 65 2 Tryd.underlying66 HZ.out w1.heap.size 0 _ _ ⟨g, 0, none⟩ 1 cap rfl rfl (L 0) 65 HA1.out (cMove x) 1 rfl rfl HA2.out HA3.out (one_move x) (L 1) HF.out _ w HB0.out hs1 ?_; intro w2 HA1' B1)
    have A1 := HA1'.out
    obtain ⟨q, hq⟩ : ∃ q, q = w1.heap.size := ⟨_, rfl⟩
    rw [← hq] at A1 hs1 ⊢
    clear HA1 HA2 HA3 HB0 HF HA1' d0 d1 hq
    go_loopw [8] (fun s wr => ∃ n : Nat, 1 ≤ n ∧ n ≤ 1 ∧ s = .int .i64 n ∧ Blk wr q (L n) 65 ∧ Below w.heap.size w wr) (fun s _ => 1 - (intOf s).toNat)
    case atStart => exact ⟨1, by omega, by omega, rfl, A1, B1⟩
    case round =>
      clear A1 B1
      obtain ⟨n, hn1, hn, rfl, A1, B1⟩ := hrel
      by_cases hlt : n < 1
      case neg =>
        obtain rfl : n = 1 := by omega
        go_wp2
        go_ret
        rw [HL.out] at A1
        have e : repC x 1 1 = post := by rw [HP.out]; simp [repC]
        rw [e] at A1
        exact ⟨q, rfl, A1, hs1, B1⟩
      omega
  · have hmk : ∀ w, (Instr.makeSlice 66 (.int .i64 2) (.int .i64 2)).run Tryd.prog w = .ok (.slice (some ⟨w.heap.size, 0, none⟩) 2 2) (w.alloc (.cells (L 0).toArray 65)) := HMK.out
    go_enter Tryd.func61, Tryd.ntmps61
    go_wp2_with fail
    refine (hmul.out w).mono ?_
    rintro e w1 ⟨rfl, b⟩
    have d0 := (b.cell (p := ⟨g, 0, none⟩) hg).trans h0
    have d1 := (b.cell (p := ⟨g, 1, none⟩) hg).trans h1
    have A1 := blk_list w1 (L 0) 65
    have A2 := src_move (src_alloc d0 (.cells (L 0).toArray 65)) (src_alloc d1 (.cells (L 0).toArray 65))
    have A3 : 0 + (cMove x).length ≤ (L 0).length := by rw [hll.out 0 (by omega)]; simp [cMove]
    have hb0 : Below w.heap.size w (w1.alloc (.cells (L 0).toArray 65)) := b.alloc b.size _
    have hs1 := b.size
    have HA1 := Lib.hid A1; clear A1
    have HA2 := Lib.hid A2; clear A2
    have HA3 := Lib.hid A3; clear A3
    have HB0 := Lib.hid hb0; clear hb0
    have hfirst : List.take 0 (L 0) ++ cMove x ++ List.drop (0 + (cMove x).length) (L 0) = L 1 := by simpa using H0.out 0 1 (by omega)
    have HF := Lib.hid hfirst; clear hfirst
    go_wp2_with (refine wpList_copy_wide rfl (.tmp 31) (.tmp 32) 66 66 rfl 65 2 Tryd.underlying66 HZ.out w1.heap.size 0 _ _ ⟨g, 0, none⟩ 1 cap rfl rfl (L 0) 65 HA1.out (cMove x) 1 rfl rfl HA2.out HA3.out (one_move x) (L 1) HF.out _ w HB0.out hs1 ?_; intro w2 HA1' B1)
    have A1 := HA1'.out
    obtain ⟨q, hq⟩ : ∃ q, q = w1.heap.size := ⟨_, rfl⟩
    rw [← hq] at A1 hs1 ⊢
    clear HA1 HA2 HA3 HB0 HF HA1' d0 d1 hq
    go_loopw [8] (fun s wr => ∃ n : Nat, 1 ≤ n ∧ n ≤ 2 ∧ s = .int .i64 n ∧ Blk wr q (L n) 65 ∧ Below w.heap.size w wr) (fun s _ => 2 - (intOf s).toNat)
    case atStart => exact ⟨1, by omega, by omega, rfl, A1, B1⟩
    case round =>
      clear A1 B1
      obtain ⟨n, hn1, hn, rfl, A1, B1⟩ := hrel
      by_cases hlt : n < 2
      case neg =>
        obtain rfl : n = 2 := by omega
        go_wp2
        go_ret
        rw [HL.out] at A1
        have e : repC x 2 2 = post := by rw [HP.out]; simp [repC]
        rw [e] at A1
        exact ⟨q, rfl, A1, hs1, B1⟩
      have hcase : n = 1 := by omega
      have HAL := Lib.hid A1
      have HBL := Lib.hid B1
      have hsq := A1.lt
      clear A1 B1
      rcases hcase with rfl
      · have A2 := repC_src (m := 1) (HL.out ▸ HAL.out) (by omega)
        have A3 : 1 * 2 + ((List.replicate 1 x).flatMap cMove).length ≤ (L 1).length := by rw [hll.out 1 (by omega), repC_len]; omega
        have A4 := H0.out 1 1 (by omega)
        have A5 : ((List.replicate 1 x).flatMap cMove).length = 1 * 2 := repC_len x 1
        have HA2 := Lib.hid A2; have HA3 := Lib.hid A3; have HA4 := Lib.hid A4; have HA5 := Lib.hid A5
        clear A2 A3 A4 A5
        obtain ⟨Y, hY⟩ : ∃ Y, Y = (List.replicate 1 x).flatMap cMove := ⟨_, rfl⟩
        rw [← hY] at HA2 HA3 HA4 HA5
        have HO := Lib.hid (one_moves x 1); rw [← hY] at HO
        have HY := Lib.hid hY; clear hY
        go_wp2_with fail
        go_region_held3 (fun w' => q < w'.heap.size) (first | exact hsq | exact HA6.out.lt | go_keep) (first | (refine step_copy_wide rfl (.tmp 41) (.tmp 44) 66 66 rfl 65 2 Tryd.underlying66 HZ.out q 2 _ _ ⟨q, 0, none⟩ _ _ rfl rfl (L 1) 65 (by exact HAL.out) Y 1 rfl HA5.out (by exact HA2.out) HA3.out HO.out (L 2) HA4.out _ w (by first | exact HBL.out | exact HBL.out.drew) hs1 ?_; intro w3 HA6 B3))
        all_goals go_wp2
        go_roundw
        case rel => exact ⟨2, by omega, by omega, rfl, HA6.out, B3⟩
        case measure => simp [intOf, show IntKind.i64.wrap 2 = 2 from by decide]
  · have hmk : ∀ w, (Instr.makeSlice 66 (.int .i64 3) (.int .i64 3)).run Tryd.prog w = .ok (.slice (some ⟨w.heap.size, 0, none⟩) 3 3) (w.alloc (.cells (L 0).toArray 65)) := HMK.out
    go_enter Tryd.func61, Tryd.ntmps61
    go_wp2_with fail
    refine (hmul.out w).mono ?_
    rintro e w1 ⟨rfl, b⟩
    have d0 := (b.cell (p := ⟨g, 0, none⟩) hg).trans h0
    have d1 := (b.cell (p := ⟨g, 1, none⟩) hg).trans h1
    have A1 := blk_list w1 (L 0) 65
    have A2 := src_move (src_alloc d0 (.cells (L 0).toArray 65)) (src_alloc d1 (.cells (L 0).toArray 65))
    have A3 : 0 + (cMove x).length ≤ (L 0).length := by rw [hll.out 0 (by omega)]; simp [cMove]
    have hb0 : Below w.heap.size w (w1.alloc (.cells (L 0).toArray 65)) := b.alloc b.size _
    have hs1 := b.size
    have HA1 := Lib.hid A1; clear A1
    have HA2 := Lib.hid A2; clear A2
    have HA3 := Lib.hid A3; clear A3
    have HB0 := Lib.hid hb0; clear hb0
    have hfirst : List.take 0 (L 0) ++ cMove x ++ List.drop (0 + (cMove x).length) (L 0) = L 1 := by simpa using H0.out 0 1 (by omega)
    have HF := Lib.hid hfirst; clear hfirst
    go_wp2_with (refine wpList_copy_wide rfl (.tmp 31) (.tmp 32) 66 66 rfl 65 2 Tryd.underlying66 HZ.out w1.heap.size 0 _ _ ⟨g, 0, none⟩ 1 cap rfl rfl (L 0) 65 HA1.out (cMove x) 1 rfl rfl HA2.out HA3.out (one_move x) (L 1) HF.out _ w HB0.out hs1 ?_; intro w2 HA1' B1)
    have A1 := HA1'.out
    obtain ⟨q, hq⟩ : ∃ q, q = w1.heap.size := ⟨_, rfl⟩
    rw [← hq] at A1 hs1 ⊢
    clear HA1 HA2 HA3 HB0 HF HA1' d0 d1 hq
    go_loopw [8] (fun s wr => ∃ n : Nat, 1 ≤ n ∧ n ≤ 3 ∧ s = .int .i64 n ∧ Blk wr q (L n) 65 ∧ Below w.heap.size w wr) (fun s _ => 3 - (intOf s).toNat)
    case atStart => exact ⟨1, by omega, by omega, rfl, A1, B1⟩
    case round =>
      clear A1 B1
      obtain ⟨n, hn1, hn, rfl, A1, B1⟩ := hrel
      by_cases hlt : n < 3
      case neg =>
        obtain rfl : n = 3 := by omega
        go_wp2
        go_ret
        rw [HL.out] at A1
        have e : repC x 3 3 = post := by rw [HP.out]; simp [repC]
        rw [e] at A1
        exact ⟨q, rfl, A1, hs1, B1⟩
      have hcase : n = 1 ∨ n = 2 := by omega
      have HAL := Lib.hid A1
      have HBL := Lib.hid B1
      have hsq := A1.lt
      clear A1 B1
      rcases hcase with rfl | rfl
      · have A2 := repC_src (m := 1) (HL.out ▸ HAL.out) (by omega)
        have A3 : 1 * 2 + ((List.replicate 1 x).flatMap cMove).length ≤ (L 1).length := by rw [hll.out 1 (by omega), repC_len]; omega
        have A4 := H0.out 1 1 (by omega)
        have A5 : ((List.replicate 1 x).flatMap cMove).length = 1 * 2 := repC_len x 1
        have HA2 := Lib.hid A2; have HA3 := Lib.hid A3; have HA4 := Lib.hid A4; have HA5 := Lib.hid A5
        clear A2 A3 A4 A5
        obtain ⟨Y, hY⟩ : ∃ Y, Y = (List.replicate 1 x).flatMap cMove := ⟨_, rfl⟩
        rw [← hY] at HA2 HA3 HA4 HA5
        have HO := Lib.hid (one_moves x 1); rw [← hY] at HO
        have HY := Lib.hid hY; clear hY
        go_wp2_with fail
        go_region_held3 (fun w' => q < w'.heap.size) (first | exact hsq | exact HA6.out.lt | go_keep) (first | (refine step_copy_wide rfl (.tmp 41) (.tmp 44) 66 66 rfl 65 2 Tryd.underlying66 HZ.out q 2 _ _ ⟨q, 0, none⟩ _ _ rfl rfl (L 1) 65 (by exact HAL.out) Y 1 rfl HA5.out (by exact HA2.out) HA3.out HO.out (L 2) HA4.out _ w (by first | exact HBL.out | exact HBL.out.drew) hs1 ?_; intro w3 HA6 B3))
        all_goals go_wp2
        go_roundw
        case rel => exact ⟨2, by omega, by omega, rfl, HA6.out, B3⟩
        case measure => simp [intOf, show IntKind.i64.wrap 2 = 2 from by decide]
      · have A2 := repC_src (m := 1) (HL.out ▸ HAL.out) (by omega)
        have A3 : 2 * 2 + ((List.replicate 1 x).flatMap cMove).length ≤ (L 2).length := by rw [hll.out 2 (by omega), repC_len]; omega
        have A4 := H0.out 2 1 (by omega)
        have A5 : ((List.replicate 1 x).flatMap cMove).length = 1 * 2 := repC_len x 1
        have HA2 := Lib.hid A2; have HA3 := Lib.hid A3; have HA4 := Lib.hid A4; have HA5 := Lib.hid A5
        clear A2 A3 A4 A5
        obtain ⟨Y, hY⟩ : ∃ Y, Y = (List.replicate 1 x).flatMap cMove := ⟨_, rfl⟩
        rw [← hY] at HA2 HA3 HA4 HA5
        have HO := Lib.hid (one_moves x 1); rw [← hY] at HO
        have HY := Lib.hid hY; clear hY
        go_wp2_with fail
        go_region_held3 (fun w' => q < w'.heap.size) (first | exact hsq | exact HA6.out.lt | go_keep) (first | (refine step_copy_wide rfl (.tmp 41) (.tmp 44) 66 66 rfl 65 2 Tryd.underlying66 HZ.out q 4 _ _ ⟨q, 0, none⟩ _ _ rfl rfl (L 2) 65 (by exact HAL.out) Y 1 rfl HA5.out (by exact HA2.out) HA3.out HO.out (L 3) HA4.out _ w (by first | exact HBL.out | exact HBL.out.drew) hs1 ?_; intro w3 HA6 B3))
        all_goals go_wp2
        go_roundw
        case rel => exact ⟨3, by omega, by omega, rfl, HA6.out, B3⟩
        case measure => simp [intOf, show IntKind.i64.wrap 3 = 3 from by decide]
  · have hmk : ∀ w, (Instr.makeSlice 66 (.int .i64 4) (.int .i64 4)).run Tryd.prog w = .ok (.slice (some ⟨w.heap.size, 0, none⟩) 4 4) (w.alloc (.cells (L 0).toArray 65)) := HMK.out
    go_enter Tryd.func61, Tryd.ntmps61
    go_wp2_with fail
    refine (hmul.out w).mono ?_
    rintro e w1 ⟨rfl, b⟩
    have d0 := (b.cell (p := ⟨g, 0, none⟩) hg).trans h0
    have d1 := (b.cell (p := ⟨g, 1, none⟩) hg).trans h1
    have A1 := blk_list w1 (L 0) 65
    have A2 := src_move (src_alloc d0 (.cells (L 0).toArray 65)) (src_alloc d1 (.cells (L 0).toArray 65))
    have A3 : 0 + (cMove x).length ≤ (L 0).length := by rw [hll.out 0 (by omega)]; simp [cMove]
    have hb0 : Below w.heap.size w (w1.alloc (.cells (L 0).toArray 65)) := b.alloc b.size _
    have hs1 := b.size
    have HA1 := Lib.hid A1; clear A1
    have HA2 := Lib.hid A2; clear A2
    have HA3 := Lib.hid A3; clear A3
    have HB0 := Lib.hid hb0; clear hb0
    have hfirst : List.take 0 (L 0) ++ cMove x ++ List.drop (0 + (cMove x).length) (L 0) = L 1 := by simpa using H0.out 0 1 (by omega)
    have HF := Lib.hid hfirst; clear hfirst
    go_wp2_with (refine wpList_copy_wide rfl (.tmp 31) (.tmp 32) 66 66 rfl 65 2 Tryd.underlying66 HZ.out w1.heap.size 0 _ _ ⟨g, 0, none⟩ 1 cap rfl rfl (L 0) 65 HA1.out (cMove x) 1 rfl rfl HA2.out HA3.out (one_move x) (L 1) HF.out _ w HB0.out hs1 ?_; intro w2 HA1' B1)
    have A1 := HA1'.out
    obtain ⟨q, hq⟩ : ∃ q, q = w1.heap.size := ⟨_, rfl⟩
    rw [← hq] at A1 hs1 ⊢
    clear HA1 HA2 HA3 HB0 HF HA1' d0 d1 hq
    go_loopw [8] (fun s wr => ∃ n : Nat, 1 ≤ n ∧ n ≤ 4 ∧ s = .int .i64 n ∧ Blk wr q (L n) 65 ∧ Below w.heap.size w wr) (fun s _ => 4 - (intOf s).toNat)
    case atStart => exact ⟨1, by omega, by omega, rfl, A1, B1⟩
    case round =>
      clear A1 B1
      obtain ⟨n, hn1, hn, rfl, A1, B1⟩ := hrel
      by_cases hlt : n < 4
      case neg =>
        obtain rfl : n = 4 := by omega
        go_wp2
        go_ret
        rw [HL.out] at A1
        have e : repC x 4 4 = post := by rw [HP.out]; simp [repC]
        rw [e] at A1
        exact ⟨q, rfl, A1, hs1, B1⟩
      have hcase : n = 1 ∨ n = 2 ∨ n = 3 := by omega
      have HAL := Lib.hid A1
      have HBL := Lib.hid B1
      have hsq := A1.lt
      clear A1 B1
      rcases hcase with rfl | rfl | rfl
      · have A2 := repC_src (m := 1) (HL.out ▸ HAL.out) (by omega)
        have A3 : 1 * 2 + ((List.replicate 1 x).flatMap cMove).length ≤ (L 1).length := by rw [hll.out 1 (by omega), repC_len]; omega
        have A4 := H0.out 1 1 (by omega)
        have A5 : ((List.replicate 1 x).flatMap cMove).length = 1 * 2 := repC_len x 1
        have HA2 := Lib.hid A2; have HA3 := Lib.hid A3; have HA4 := Lib.hid A4; have HA5 := Lib.hid A5
        clear A2 A3 A4 A5
        obtain ⟨Y, hY⟩ : ∃ Y, Y = (List.replicate 1 x).flatMap cMove := ⟨_, rfl⟩
        rw [← hY] at HA2 HA3 HA4 HA5
        have HO := Lib.hid (one_moves x 1); rw [← hY] at HO
        have HY := Lib.hid hY; clear hY
        go_wp2_with fail
        go_region_held3 (fun w' => q < w'.heap.size) (first | exact hsq | exact HA6.out.lt | go_keep) (first | (refine step_copy_wide rfl (.tmp 41) (.tmp 44) 66 66 rfl 65 2 Tryd.underlying66 HZ.out q 2 _ _ ⟨q, 0, none⟩ _ _ rfl rfl (L 1) 65 (by exact HAL.out) Y 1 rfl HA5.out (by exact HA2.out) HA3.out HO.out (L 2) HA4.out _ w (by first | exact HBL.out | exact HBL.out.drew) hs1 ?_; intro w3 HA6 B3))
        all_goals go_wp2
        go_roundw
        case rel => exact ⟨2, by omega, by omega, rfl, HA6.out, B3⟩
        case measure => simp [intOf, show IntKind.i64.wrap 2 = 2 from by decide]
      · have A2 := repC_src (m := 2) (HL.out ▸ HAL.out) (by omega)
        have A3 : 2 * 2 + ((List.replicate 2 x).flatMap cMove).length ≤ (L 2).length := by rw [hll.out 2 (by omega), repC_len]; omega
        have A4 := H0.out 2 2 (by omega)
        have A5 : ((List.replicate 2 x).flatMap cMove).length = 2 * 2 := repC_len x 2
        have HA2 := Lib.hid A2; have HA3 := Lib.hid A3; have HA4 := Lib.hid A4; have HA5 := Lib.hid A5
        clear A2 A3 A4 A5
        obtain ⟨Y, hY⟩ : ∃ Y, Y = (List.replicate 2 x).flatMap cMove := ⟨_, rfl⟩
        rw [← hY] at HA2 HA3 HA4 HA5
        have HO := Lib.hid (one_moves x 2); rw [← hY] at HO
        have HY := Lib.hid hY; clear hY
        go_wp2_with fail
        go_region_held3 (fun w' => q < w'.heap.size) (first | exact hsq | exact HA6.out.lt | go_keep) (first | (refine step_copy_wide rfl (.tmp 41) (.tmp 44) 66 66 rfl 65 2 Tryd.underlying66 HZ.out q 4 _ _ ⟨q, 0, none⟩ _ _ rfl rfl (L 2) 65 (by exact HAL.out) Y 2 rfl HA5.out (by exact HA2.out) HA3.out HO.out (L 4) HA4.out _ w (by first | exact HBL.out | exact HBL.out.drew) hs1 ?_; intro w3 HA6 B3))
        all_goals go_wp2
        go_roundw
        case rel => exact ⟨4, by omega, by omega, rfl, HA6.out, B3⟩
        case measure => simp [intOf, show IntKind.i64.wrap 4 = 4 from by decide]
      · have A2 := repC_src (m := 1) (HL.out ▸ HAL.out) (by omega)
        have A3 : 3 * 2 + ((List.replicate 1 x).flatMap cMove).length ≤ (L 3).length := by rw [hll.out 3 (by omega), repC_len]; omega
        have A4 := H0.out 3 1 (by omega)
        have A5 : ((List.replicate 1 x).flatMap cMove).length = 1 * 2 := repC_len x 1
        have HA2 := Lib.hid A2; have HA3 := Lib.hid A3; have HA4 := Lib.hid A4; have HA5 := Lib.hid A5
        clear A2 A3 A4 A5
        obtain ⟨Y, hY⟩ : ∃ Y, Y = (List.replicate 1 x).flatMap cMove := ⟨_, rfl⟩
        rw [← hY] at HA2 HA3 HA4 HA5
        have HO := Lib.hid (one_moves x 1); rw [← hY] at HO
        have HY := Lib.hid hY; clear hY
        go_wp2_with fail
        go_region_held3 (fun w' => q < w'.heap.size) (first | exact hsq | exact HA6.out.lt | go_keep) (first | (refine step_copy_wide rfl (.tmp 41) (.tmp 44) 66 66 rfl 65 2 Tryd.underlying66 HZ.out q 6 _ _ ⟨q, 0, none⟩ _ _ rfl rfl (L 3) 65 (by exact HAL.out) Y 1 rfl HA5.out (by exact HA2.out) HA3.out HO.out (L 4) HA4.out _ w (by first | exact HBL.out | exact HBL.out.drew) hs1 ?_; intro w3 HA6 B3))
        all_goals go_wp2
        go_roundw
        case rel => exact ⟨4, by omega, by omega, rfl, HA6.out, B3⟩
        case measure => simp [intOf, show IntKind.i64.wrap 4 = 4 from by decide]
  · have hmk : ∀ w, (Instr.makeSlice 66 (.int .i64 5) (.int .i64 5)).run Tryd.prog w = .ok (.slice (some ⟨w.heap.size, 0, none⟩) 5 5) (w.alloc (.cells (L 0).toArray 65)) := HMK.out
    go_enter Tryd.func61, Tryd.ntmps61
    go_wp2_with fail
    refine (hmul.out w).mono ?_
    rintro e w1 ⟨rfl, b⟩
    have d0 := (b.cell (p := ⟨g, 0, none⟩) hg).trans h0
    have d1 := (b.cell (p := ⟨g, 1, none⟩) hg).trans h1
    have A1 := blk_list w1 (L 0) 65
    have A2 := src_move (src_alloc d0 (.cells (L 0).toArray 65)) (src_alloc d1 (.cells (L 0).toArray 65))
    have A3 : 0 + (cMove x).length ≤ (L 0).length := by rw [hll.out 0 (by omega)]; simp [cMove]
    have hb0 : Below w.heap.size w (w1.alloc (.cells (L 0).toArray 65)) := b.alloc b.size _
    have hs1 := b.size
    have HA1 := Lib.hid A1; clear A1
    have HA2 := Lib.hid A2; clear A2
    have HA3 := Lib.hid A3; clear A3
    have HB0 := Lib.hid hb0; clear hb0
    have hfirst : List.take 0 (L 0) ++ cMove x ++ List.drop (0 + (cMove x).length) (L 0) = L 1 := by simpa using H0.out 0 1 (by omega)
    have HF := Lib.hid hfirst; clear hfirst
    go_wp2_with (refine wpList_copy_wide rfl (.tmp 31) (.tmp 32) 66 66 rfl 65 2 Tryd.underlying66 HZ.out w1.heap.size 0 _ _ ⟨g, 0, none⟩ 1 cap rfl rfl (L 0) 65 HA1.out (cMove x) 1 rfl rfl HA2.out HA3.out (one_move x) (L 1) HF.out _ w HB0.out hs1 ?_; intro w2 HA1' B1)
    have A1 := HA1'.out
    obtain ⟨q, hq⟩ : ∃ q, q = w1.heap.size := ⟨_, rfl⟩
    rw [← hq] at A1 hs1 ⊢
    clear HA1 HA2 HA3 HB0 HF HA1' d0 d1 hq
    go_loopw [8] (fun s wr => ∃ n : Nat, 1 ≤ n ∧ n ≤ 5 ∧ s = .int .i64 n ∧ Blk wr q (L n) 65 ∧ Below w.heap.size w wr) (fun s _ => 5 - (intOf s).toNat)
    case atStart => exact ⟨1, by omega, by omega, rfl, A1, B1⟩
    case round =>
      clear A1 B1
      obtain ⟨n, hn1, hn, rfl, A1, B1⟩ := hrel
      by_cases hlt : n < 5
      case neg =>
        obtain rfl : n = 5 := by omega
        go_wp2
        go_ret
        rw [HL.out] at A1
        have e : repC x 5 5 = post := by rw [HP.out]; simp [repC]
        rw [e] at A1
        exact ⟨q, rfl, A1, hs1, B1⟩
      have hcase : n = 1 ∨ n = 2 ∨ n = 3 ∨ n = 4 := by omega
      have HAL := Lib.hid A1
      have HBL := Lib.hid B1
      have hsq := A1.lt
      clear A1 B1
      rcases hcase with rfl | rfl | rfl | rfl
      · have A2 := repC_src (m := 1) (HL.out ▸ HAL.out) (by omega)
        have A3 : 1 * 2 + ((List.replicate 1 x).flatMap cMove).length ≤ (L 1).length := by rw [hll.out 1 (by omega), repC_len]; omega
        have A4 := H0.out 1 1 (by omega)
        have A5 : ((List.replicate 1 x).flatMap cMove).length = 1 * 2 := repC_len x 1
        have HA2 := Lib.hid A2; have HA3 := Lib.hid A3; have HA4 := Lib.hid A4; have HA5 := Lib.hid A5
        clear A2 A3 A4 A5
        obtain ⟨Y, hY⟩ : ∃ Y, Y = (List.replicate 1 x).flatMap cMove := ⟨_, rfl⟩
        rw [← hY] at HA2 HA3 HA4 HA5
        have HO := Lib.hid (one_moves x 1); rw [← hY] at HO
        have HY := Lib.hid hY; clear hY
        go_wp2_with fail
        go_region_held3 (fun w' => q < w'.heap.size) (first | exact hsq | exact HA6.out.lt | go_keep) (first | (refine step_copy_wide rfl (.tmp 41) (.tmp 44) 66 66 rfl 65 2 Tryd.underlying66 HZ.out q 2 _ _ ⟨q, 0, none⟩ _ _ rfl rfl (L 1) 65 (by exact HAL.out) Y 1 rfl HA5.out (by exact HA2.out) HA3.out HO.out (L 2) HA4.out _ w (by first | exact HBL.out | exact HBL.out.drew) hs1 ?_; intro w3 HA6 B3))
        all_goals go_wp2
        go_roundw
        case rel => exact ⟨2, by omega, by omega, rfl, HA6.out, B3⟩
        case measure => simp [intOf, show IntKind.i64.wrap 2 = 2 from by decide]
      · have A2 := repC_src (m := 2) (HL.out ▸ HAL.out) (by omega)
        have A3 : 2 * 2 + ((List.replicate 2 x).flatMap cMove).length ≤ (L 2).length := by rw [hll.out 2 (by omega), repC_len]; omega
        have A4 := H0.out 2 2 (by omega)
        have A5 : ((List.replicate 2 x).flatMap cMove).length = 2 * 2 := repC_len x 2
        have HA2 := Lib.hid A2; have HA3 := Lib.hid A3; have HA4 := Lib.hid A4; have HA5 := Lib.hid A5
        clear A2 A3 A4 A5
        obtain ⟨Y, hY⟩ : ∃ Y, Y = (List.replicate 2 x).flatMap cMove := ⟨_, rfl⟩
        rw [← hY] at HA2 HA3 HA4 HA5
        have HO := Lib.hid (one_moves x 2); rw [← hY] at HO
        have HY := Lib.hid hY; clear hY
        go_wp2_with fail
        go_region_held3 (fun w' => q < w'.heap.size) (first | exact hsq | exact HA6.out.lt | go_keep) (first | (refine step_copy_wide rfl (.tmp 41) (.tmp 44) 66 66 rfl 65 2 Tryd.underlying66 HZ.out q 4 _ _ ⟨q, 0, none⟩ _ _ rfl rfl (L 2) 65 (by exact HAL.out) Y 2 rfl HA5.out (by exact HA2.out) HA3.out HO.out (L 4) HA4.out _ w (by first | exact HBL.out | exact HBL.out.drew) hs1 ?_; intro w3 HA6 B3))
        all_goals go_wp2
        go_roundw
        case rel => exact ⟨4, by omega, by omega, rfl, HA6.out, B3⟩
        case measure => simp [intOf, show IntKind.i64.wrap 4 = 4 from by decide]
      · have A2 := repC_src (m := 2) (HL.out ▸ HAL.out) (by omega)
        have A3 : 3 * 2 + ((List.replicate 2 x).flatMap cMove).length ≤ (L 3).length := by rw [hll.out 3 (by omega), repC_len]; omega
        have A4 := H0.out 3 2 (by omega)
        have A5 : ((List.replicate 2 x).flatMap cMove).length = 2 * 2 := repC_len x 2
        have HA2 := Lib.hid A2; have HA3 := Lib.hid A3; have HA4 := Lib.hid A4; have HA5 := Lib.hid A5
        clear A2 A3 A4 A5
        obtain ⟨Y, hY⟩ : ∃ Y, Y = (List.replicate 2 x).flatMap cMove := ⟨_, rfl⟩
        rw [← hY] at HA2 HA3 HA4 HA5
        have HO := Lib.hid (one_moves x 2); rw [← hY] at HO
        have HY := Lib.hid hY; clear hY
        go_wp2_with fail
        go_region_held3 (fun w' => q < w'.heap.size) (first | exact hsq | exact HA6.out.lt | go_keep) (first | (refine step_copy_wide rfl (.tmp 41) (.tmp 44) 66 66 rfl 65 2 Tryd.underlying66 HZ.out q 6 _ _ ⟨q, 0, none⟩ _ _ rfl rfl (L 3) 65 (by exact HAL.out) Y 2 rfl HA5.out (by exact HA2.out) HA3.out HO.out (L 5) HA4.out _ w (by first | exact HBL.out | exact HBL.out.drew) hs1 ?_; intro w3 HA6 B3))
        all_goals go_wp2
        go_roundw
        case rel => exact ⟨5, by omega, by omega, rfl, HA6.out, B3⟩
        case measure => simp [intOf, show IntKind.i64.wrap 5 = 5 from by decide]
      · have A2 := repC_src (m := 1) (HL.out ▸ HAL.out) (by omega)
        have A3 : 4 * 2 + ((List.replicate 1 x).flatMap cMove).length ≤ (L 4).length := by rw [hll.out 4 (by omega), repC_len]; omega
        have A4 := H0.out 4 1 (by omega)
        have A5 : ((List.replicate 1 x).flatMap cMove).length = 1 * 2 := repC_len x 1
        have HA2 := Lib.hid A2; have HA3 := Lib.hid A3; have HA4 := Lib.hid A4; have HA5 := Lib.hid A5
        clear A2 A3 A4 A5
        obtain ⟨Y, hY⟩ : ∃ Y, Y = (List.replicate 1 x).flatMap cMove := ⟨_, rfl⟩
        rw [← hY] at HA2 HA3 HA4 HA5
        have HO := Lib.hid (one_moves x 1); rw [← hY] at HO
        have HY := Lib.hid hY; clear hY
        go_wp2_with fail
        go_region_held3 (fun w' => q < w'.heap.size) (first | exact hsq | exact HA6.out.lt | go_keep) (first | (refine step_copy_wide rfl (.tmp 41) (.tmp 44) 66 66 rfl 65 2 Tryd.underlying66 HZ.out q 8 _ _ ⟨q, 0, none⟩ _ _ rfl rfl (L 4) 65 (by exact HAL.out) Y 1 rfl HA5.out (by exact HA2.out) HA3.out HO.out (L 5) HA4.out _ w (by first | exact HBL.out | exact HBL.out.drew) hs1 ?_; intro w3 HA6 B3))
        all_goals go_wp2
        go_roundw
        case rel => exact ⟨5, by omega, by omega, rfl, HA6.out, B3⟩
        case measure => simp [intOf, show IntKind.i64.wrap 5 = 5 from by decide]

end Go.Proofs.YtnkhgfdlehhjmaaDoor
