/-
  The library's Repeat of one letter 'a', up to sixty times.
-/
import Derived.Test.YtjochoghmpcgdaaDoorMulBK
import Derived.Test.YtjochoghmpcgdaaDoorPackB
import Derived.Test.YtjochoghmpcgdaaDoorBldKK
import Derived.Deep.RegionHeld3
import Derived.Deep.DeepCutAuto
namespace Go.Proofs.YtjochoghmpcgdaaDoor
open Go.RowKit

theorem inf_U8 : (Tryd.prog.info? 5).map (fun i => (i.zero, i.size, i.bytes)) = some (some (.int .u8 0), 1, 1) := by kernel_rfl

/-- c letters in the making: n of them laid. -/
def repL (c n : Nat) : List Value := List.replicate n (.int .u8 97) ++ List.replicate (c - n) (.int .u8 0)

theorem repL_len {c n : Nat} (h : n ≤ c) : (repL c n).length = c := by
  unfold repL; rw [List.length_append, List.length_replicate, List.length_replicate]; omega

theorem repL_copy (c n m : Nat) (h : n + m ≤ c) : (repL c n).take n ++ List.replicate m (.int .u8 97) ++ (repL c n).drop (n + (List.replicate m (Value.int .u8 97)).length) = repL c (n + m) := by
  unfold repL
  rw [List.take_left' List.length_replicate, List.length_replicate, ← List.drop_drop, List.drop_left' List.length_replicate, List.drop_replicate, ← List.replicate_append_replicate]
  congr 2
  omega

theorem repL_src {w : World} {q : Nat} {ty : TypeId} {c n m : Nat} (A : Blk w q (repL c n) ty) (h : m ≤ n) : ∀ j v, (List.replicate m (Value.int .u8 97))[j]? = some v → w.cell? ((⟨q, 0, none⟩ : Addr).add j) = some v := by
  intro j v hv
  rw [Addr.add_lit, Nat.zero_add]
  refine A.cell j ?_
  have hj := (List.getElem?_eq_some_iff.1 hv).1
  rw [List.length_replicate] at hj
  rw [List.getElem?_replicate, if_pos hj] at hv
  unfold repL
  rw [List.getElem?_append_left (by rw [List.length_replicate]; omega), List.getElem?_replicate, if_pos (by omega)]
  exact hv

theorem one_rep (m : Nat) : ∀ v, v ∈ List.replicate m (Value.int .u8 97) → v.oneCell' = true := by
  intro v hv
  rw [List.eq_of_mem_replicate hv]
  rfl

theorem blk_listB (w : World) (l : List Value) (ty : TypeId) : Blk (w.alloc (.cells l.toArray ty)) w.heap.size l ty := Blk.new w l.toArray ty

theorem src_allocB {w : World} {a : Addr} {v : Value} (h : w.cell? a = some v) (o : Obj) : (w.alloc o).cell? a = some v := (((Below.refl w.heap.size w).alloc (Nat.le_refl _) o).cell (World.block_lt_of_cell? w _ h)).trans h

/-- A row of bytes handed back. -/
def RowB (cs : List Value) (n : Nat) (w : World) (e : Ending) (w' : World) : Prop := ∃ q, e = .returned (.slice (some ⟨q, 0, none⟩) n n) ∧ Blk w' q cs 5 ∧ w.heap.size ≤ q ∧ Below w.heap.size w w'

set_option maxHeartbeats 4000000 in
set_option maxRecDepth 100000 in
theorem repeat_b (g cap c : Nat) (hc : 1 ≤ c ∧ c ≤ 60) (w : World) (h0 : w.cell? ⟨g, 0, none⟩ = some (.int .u8 97)) :
    Calls Tryd.prog 48 #[.slice (some ⟨g, 0, none⟩) 1 cap, .int .i64 (c : Nat)] w (RowB (List.replicate c (.int .u8 97)) c w) := by
  have hg := World.block_lt_of_cell? w _ h0
  obtain ⟨i, hi, hz0, hz1, hz2⟩ := info_parts inf_U8
  have hsz : (Tryd.prog.info? 5).map (·.size) = some 1 := by rw [hi]; exact congrArg some hz1
  have hmk := make_run (P := Tryd.prog) Tryd.underlying22 hi hz0 hz1 c (by rw [hz2]; omega) (by omega)
  have hmc : (madeCells (Value.int .u8 0).cells c) = (repL c 0).toArray := by
    rw [← Array.toList_inj]
    exact (toList_madeCells_one _ _).trans (by simp [repL])
  rw [hmc] at hmk
  have wu : IntKind.u64.wrap (c : Int) = (c : Int) := IntWalk.u64_in _ ⟨by omega, by omega⟩
  have wi : IntKind.i64.wrap (c : Int) = (c : Int) := IntWalk.i64_in _ ⟨by omega, by omega⟩
  have hmul := Lib.hid (mul_b c hc.2)
  have HZ := Lib.hid hsz
  obtain ⟨L, hL⟩ : ∃ L : Nat → List Value, L = repL c := ⟨_, rfl⟩
  rw [← hL] at hmk
  have HL := Lib.hid hL
  have hlt0 : ¬ (c : Int) < 0 := by omega
  have hgt : ¬ (9223372036854775807 : Int) < (c : Int) := by omega
  clear hi hz0 hz1 hz2 hmc hL hsz
  go_enter Tryd.func48, Tryd.ntmps48
  go_wp2_with fail
  refine (hmul.out w).mono ?_
  rintro e w1 ⟨rfl, b⟩
  have d0 := (b.cell (p := ⟨g, 0, none⟩) hg).trans h0
  have HA1 := Lib.hid (blk_listB w1 (L 0) 5)
  have HA2 := Lib.hid (show ∀ j v, [Value.int .u8 97][j]? = some v → (w1.alloc (.cells (L 0).toArray 5)).cell? ((⟨g, 0, none⟩ : Addr).add j) = some v from fun j v hv => by
    match j with
    | 0 =>
      obtain rfl : _ = v := by simpa using hv
      rw [Addr.add_lit]
      exact src_allocB d0 _
    | j + 1 => simp at hv)
  have HA3 := Lib.hid (show 0 + [Value.int .u8 97].length ≤ (L 0).length by rw [HL.out, repL_len (Nat.zero_le _)]; exact hc.1)
  have HB0 := Lib.hid (b.alloc b.size (.cells (L 0).toArray 5))
  have hs1 := b.size
  have HM := Lib.hid (show 1 = Nat.min 1 c from (Nat.min_eq_left hc.1).symm)
  have HO := Lib.hid (show ∀ v, v ∈ [Value.int .u8 97] → v.oneCell' = true from one_mem rfl)
  have HF := Lib.hid (show List.take 0 (L 0) ++ [Value.int .u8 97] ++ List.drop (0 + [Value.int .u8 97].length) (L 0) = L 1 by rw [HL.out]; simpa using repL_copy c 0 1 (by omega))
  go_wp2_with (refine wpList_copy_wide rfl (.tmp 31) (.tmp 32) 22 22 rfl 5 1 Tryd.underlying22 HZ.out w1.heap.size 0 _ _ ⟨g, 0, none⟩ 1 cap rfl rfl (L 0) 5 HA1.out [.int .u8 97] 1 HM.out rfl HA2.out HA3.out HO.out (L 1) HF.out _ w HB0.out hs1 ?_; intro w2 HA1' B1)
  have A1 := HA1'.out
  obtain ⟨q, hq⟩ : ∃ q, q = w1.heap.size := ⟨_, rfl⟩
  rw [← hq] at A1 hs1 ⊢
  clear HA1 HA2 HA3 HB0 HF HA1' d0 hq HM HO
  go_loopw [8] (fun s wr => ∃ n : Nat, 1 ≤ n ∧ n ≤ c ∧ s = .int .i64 n ∧ Blk wr q (L n) 5 ∧ Below w.heap.size w wr) (fun s _ => c - (intOf s).toNat)
  case atStart => exact ⟨1, by omega, by omega, rfl, A1, B1⟩
  case round =>
    clear A1 B1
    obtain ⟨n, hn1, hn, rfl, A1, B1⟩ := hrel
    by_cases hlt : n < c
    case neg =>
      obtain rfl : n = c := by omega
      go_wp2
      go_ret
      rw [HL.out] at A1
      have e : repL n n = List.replicate n (.int .u8 97) := by unfold repL; simp
      rw [e] at A1
      exact ⟨q, rfl, A1, hs1, B1⟩
    have HAL := Lib.hid A1
    have HBL := Lib.hid B1
    have hsq := A1.lt
    obtain ⟨m, hm⟩ : ∃ m, m = Nat.min n (c - n) := ⟨_, rfl⟩
    have hmn : m ≤ n := by rw [hm]; exact Nat.min_le_left _ _
    have hmc : m ≤ c - n := by rw [hm]; exact Nat.min_le_right _ _
    have hm1 : 1 ≤ m := by rw [hm]; exact Nat.le_min.2 ⟨hn1, by omega⟩
    have HA2 := Lib.hid (repL_src (m := m) (HL.out ▸ HAL.out) hmn)
    have HA3 := Lib.hid (show n + (List.replicate m (Value.int .u8 97)).length ≤ (L n).length by rw [HL.out, repL_len hn, List.length_replicate]; omega)
    have HA4 := Lib.hid (show (L n).take n ++ List.replicate m (.int .u8 97) ++ (L n).drop (n + (List.replicate m (Value.int .u8 97)).length) = L (n + m) by rw [HL.out]; exact repL_copy c n m (by omega))
    have HA5 := Lib.hid (show (List.replicate m (Value.int .u8 97)).length = m * 1 by rw [List.length_replicate, Nat.mul_one])
    obtain ⟨Y, hY⟩ : ∃ Y, Y = List.replicate m (Value.int .u8 97) := ⟨_, rfl⟩
    rw [← hY] at HA2 HA3 HA4 HA5
    have HO := Lib.hid (one_rep m)
    rw [← hY] at HO
    have HMM := Lib.hid hm
    clear A1 B1 hY hm
    have i1 : (0 : Int) ≤ (n : Int) := by omega
    have i2 : (n : Int) ≤ (c : Int) := by omega
    have hcn : ¬ c = n := by omega
    have ws : IntKind.i64.wrap ((n : Int) + (m : Int)) = (n : Int) + (m : Int) := IntWalk.i64_in _ ⟨by omega, by omega⟩
    go_upto_region 9 with fail
    go_region_held3 (fun w' => q < w'.heap.size) (first | exact hsq | exact HA6.out.lt | go_keep) (first | (refine step_copy_wide rfl (.tmp 41) (.tmp 44) 22 22 rfl 5 1 Tryd.underlying22 HZ.out q n _ _ ⟨q, 0, none⟩ _ _ rfl rfl (L n) 5 (by exact HAL.out) Y m HMM.out HA5.out (by exact HA2.out) HA3.out HO.out (L (n + m)) HA4.out _ w (by first | exact HBL.out | exact HBL.out.drew) hs1 ?_; intro w3 HA6 B3))
    all_goals go_wp2
    go_roundw
    case rel => exact ⟨n + m, by omega, by omega, by simp, HA6.out, B3⟩
    case measure => simp [intOf]; omega

set_option maxHeartbeats 4000000 in
theorem repeat_0 (g cap : Nat) (w : World) (h0 : w.cell? ⟨g, 0, none⟩ = some (.int .u8 97)) :
    Calls Tryd.prog 48 #[.slice (some ⟨g, 0, none⟩) 1 cap, .int .i64 0] w (RowB [] 0 w) := by
  obtain ⟨i, hi, hz0, hz1, hz2⟩ := info_parts inf_U8
  have hsz : (Tryd.prog.info? 5).map (·.size) = some 1 := by rw [hi]; exact congrArg some hz1
  have hmk : ∀ w', (Instr.makeSlice 22 (.int .i64 0) (.int .i64 0)).run Tryd.prog w' = .ok (.slice (some ⟨w'.heap.size, 0, none⟩) 0 0) (w'.alloc (.cells #[] 5)) := fun w' => by
    have h := make_run (P := Tryd.prog) Tryd.underlying22 hi hz0 hz1 0 (by omega) (by omega) w'
    rw [show madeCells (Value.int .u8 0).cells 0 = #[] from by rw [← Array.toList_inj]; exact (toList_madeCells_one _ _).trans rfl] at h
    exact h
  have HZ := Lib.hid hsz
  have hmul := Lib.hid (show Calls Tryd.prog 76 #[.int .u64 1, .int .u64 0] w (Gives (.tuple #[.int .u64 0, .int .u64 0]) w) from mul_b 0 (by omega) w)
  clear hi hz0 hz1 hz2 hsz
  go_enter Tryd.func48, Tryd.ntmps48
  go_wp2_with fail
  refine (hmul.out).mono ?_
  rintro e w1 ⟨rfl, b⟩
  have HA1 := Lib.hid (blk_listB w1 [] 5)
  have HB0 := Lib.hid (b.alloc b.size (.cells #[] 5))
  have hs1 := b.size
  go_wp2_with (refine wpList_copy_wide rfl (.tmp 31) (.tmp 32) 22 22 rfl 5 1 Tryd.underlying22 HZ.out w1.heap.size 0 _ _ ⟨g, 0, none⟩ 1 cap rfl rfl [] 5 HA1.out [] 0 rfl rfl (fun j v hv => by simp at hv) (Nat.le_refl _) (fun v hv => by cases hv) [] rfl _ w HB0.out hs1 ?_; intro w2 HA1' B1)
  go_loopw [8] (fun s wr => s = .int .i64 0 ∧ Blk wr w1.heap.size [] 5 ∧ Below w.heap.size w wr) (fun _ _ => 0)
  case atStart => exact ⟨rfl, HA1'.out, B1⟩
  case round =>
    obtain ⟨rfl, A1, B2⟩ := hrel
    go_wp2
    go_ret
    exact ⟨w1.heap.size, rfl, A1, hs1, B2⟩

end Go.Proofs.YtjochoghmpcgdaaDoor
