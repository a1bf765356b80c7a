/-
  The library's build at six strings whose words are not all single bytes.
-/
import Derived.Test.YtcifdkliiljmkaaGreatDoorRepBdK
namespace Go.Proofs.YtcifdkliiljmkaaGreatDoor
open Go.RowKit

theorem Star.litCap {α : Type} {E : Enc α} {ty : TypeId} {g n : Nat} {cs : List Value} {w0 w : World} {ps : List Ob} (S : Star w0 w (oB g cs ty :: ps)) (hl : cs.length = n * E.size) (hn : n ≤ maxLen) :
    Star w0 w (oE (sliceE E ty) [.slice (some ⟨g, 0, none⟩) 0 n] ([] : List α) :: ps) :=
  S.upd fun q hq _ hlt => ⟨q, by rw [hq.2]; exact ⟨_, [], [], rfl, .nil, ⟨by simp, .inr ⟨g, n, cs.toArray, rfl, Nat.zero_le _, hq.1, Nat.zero_le _, hn, by simpa using hl, by simp⟩⟩, by simp [Value.ownBlock]⟩, by rw [hq.2]; simp, fun b hb => .inl hb, hlt, But.refl _ _⟩

theorem zeroS_size (v : Value) : (Tryz.prog.info? tBst).map (·.size) = some (Tryz.zeroCells173.setIfInBounds 256 v).size := by
  rw [Array.size_setIfInBounds]; kernel_rfl
theorem zeroS_all : Tryz.zeroCells173.all (·.oneCell') = true := by kernel_rfl
theorem zeroS_one (v : Value) (hv : v.oneCell' = true) : (Tryz.zeroCells173.setIfInBounds 256 v).all (·.oneCell') = true := by
  rw [Array.all_eq_true_iff_forall_mem]
  intro x hx
  rcases Array.mem_or_eq_of_mem_setIfInBounds hx with h | h
  · exact Array.all_eq_true_iff_forall_mem.1 zeroS_all x h
  · rw [h]; exact hv
theorem zeroS_is : Tryz.zeroCells173.toList = List.replicate 257 (.slice none 0 0) := by kernel_rfl

/-- The cells of a replacer of bytes by strings. -/
def csS (v1 v2 v3 t : Value) : List Value := ((((List.replicate 257 (.slice none 0 0)).set 97 v1).set 98 v2).set 99 v3).set 256 t
theorem csS_97 (v1 v2 v3 t : Value) : (csS v1 v2 v3 t)[97]? = some v1 := by kernel_rfl
theorem csS_98 (v1 v2 v3 t : Value) : (csS v1 v2 v3 t)[98]? = some v2 := by kernel_rfl
theorem csS_99 (v1 v2 v3 t : Value) : (csS v1 v2 v3 t)[99]? = some v3 := by kernel_rfl
theorem csS_256 (v1 v2 v3 t : Value) : (csS v1 v2 v3 t)[256]? = some t := by kernel_rfl
theorem csS_set97 (v1 v2 v3 t v : Value) : (csS v1 v2 v3 t).set 97 v = csS v v2 v3 t := by kernel_rfl
theorem csS_set98 (v1 v2 v3 t v : Value) : (csS v1 v2 v3 t).set 98 v = csS v1 v v3 t := by kernel_rfl
theorem csS_set99 (v1 v2 v3 t v : Value) : (csS v1 v2 v3 t).set 99 v = csS v1 v2 v t := by kernel_rfl
theorem csS_set256 (v1 v2 v3 t v : Value) : (csS v1 v2 v3 t).set 256 v = csS v1 v2 v3 v := by kernel_rfl
theorem csS_zero (t : Value) : (Tryz.zeroCells173.setIfInBounds 256 t).toList = csS (.slice none 0 0) (.slice none 0 0) (.slice none 0 0) t := by kernel_rfl

set_option maxHeartbeats 16000000 in
set_option maxRecDepth 100000 in
theorem build_strs (r : Nat) (v : Value) (a b c : ByteArray) (w : World) (hs : ¬ (a.size = 1 ∧ b.size = 1 ∧ c.size = 1)) (hr : w.cell? ⟨r, 4, none⟩ = some v) (h : strsE.rd w w.heap.size [v] (repL a b c)) :
    Calls Tryz.prog 110 #[.pointer (some ⟨r, 0, none⟩)] w (fun e w' => ∃ iv, e = .returned iv ∧ Star w w' [oImpl iv a b c]) := by
  obtain ⟨jb, jo, jn, jc, rfl, hjn, hjb, hjc⟩ := strs_cellsQ h (by simp [repL])
  obtain rfl : jn = 6 := hjn
  have c0 : w.cell? ⟨jb, jo, none⟩ = some (.string ⟨#[97]⟩) := hjc 0 (by simp [repL])
  have c1 : w.cell? ⟨jb, jo + 1, none⟩ = some (.string a) := hjc 1 (by simp [repL])
  have c2 : w.cell? ⟨jb, jo + 2, none⟩ = some (.string ⟨#[98]⟩) := hjc 2 (by simp [repL])
  have c3 : w.cell? ⟨jb, jo + 3, none⟩ = some (.string b) := hjc 3 (by simp [repL])
  have c4 : w.cell? ⟨jb, jo + 4, none⟩ = some (.string ⟨#[99]⟩) := hjc 4 (by simp [repL])
  have c5 : w.cell? ⟨jb, jo + 5, none⟩ = some (.string c) := hjc 5 (by simp [repL])
  clear h hjc
  have HS := Lib.hid hs
  clear hs
  have hsc := run_storeCells_new (P := Tryz.prog) (w.alloc (.cells (madeCells #[.string ⟨#[]⟩] 3) 9)) tBst Tryz.zeroCells173 _ (zeroS_size (.slice (some ⟨w.heap.size, 0, none⟩) 0 3)) (by rw [Array.size_setIfInBounds]) (zeroS_one _ rfl)
  rw [World.size_alloc, Array.toList_setIfInBounds] at hsc
  obtain ⟨i0, hi, hz0, hz1, hz2⟩ := info_parts inf_StringS
  have HCV := fun X w => Lib.run_convert_string_bytes (P := Tryz.prog) w 9 127 5 X Tryz.underlying9 Tryz.underlying127 Tryz.underlying5
  have HBK := fun (w : World) (x : UInt8) => run_convert_bytes_back (P := Tryz.prog) (w.alloc (.cells #[.int .u8 (x.toNat : Int)] 5)) 127 9 5 ⟨w.heap.size, 0, none⟩ 1 [x] Tryz.underlying127 Tryz.underlying5 Tryz.underlying9 (fun j hj => by
    have : j = 0 := by simpa using hj
    subst this
    exact cell_a1 (cs := [.int .u8 (x.toNat : Int)]) 0 _ rfl)
  have B97 : ∀ w : World, (convert 127 9 (.slice (some ⟨w.heap.size, 0, none⟩) 1 1)).run Tryz.prog (w.alloc (.cells #[.int .u8 97] 5)) = .ok (.string ⟨#[97]⟩) (w.alloc (.cells #[.int .u8 97] 5)) := fun w => HBK w 97
  have B98 : ∀ w : World, (convert 127 9 (.slice (some ⟨w.heap.size, 0, none⟩) 1 1)).run Tryz.prog (w.alloc (.cells #[.int .u8 98] 5)) = .ok (.string ⟨#[98]⟩) (w.alloc (.cells #[.int .u8 98] 5)) := fun w => HBK w 98
  have B99 : ∀ w : World, (convert 127 9 (.slice (some ⟨w.heap.size, 0, none⟩) 1 1)).run Tryz.prog (w.alloc (.cells #[.int .u8 99] 5)) = .ok (.string ⟨#[99]⟩) (w.alloc (.cells #[.int .u8 99] 5)) := fun w => HBK w 99
  clear HBK
  have qT : ∀ (w : World) (a : Option Addr) (n c n' c' : Nat), (binOp .eql 127 (.slice a n c) (.slice none n' c')).run Tryz.prog w = .ok (.bool a.isNone) w := fun w a n c n' c' => Lib.run_eql_slice_nil w _ _ a n c n' c' Tryz.underlying127
  have g1 : ∀ h, (((⟨#[97]⟩ : ByteArray)[0]'h).toNat : Int) = 97 := fun _ => rfl
  have g2 : ∀ h, (((⟨#[98]⟩ : ByteArray)[0]'h).toNat : Int) = 98 := fun _ => rfl
  have g3 : ∀ h, (((⟨#[99]⟩ : ByteArray)[0]'h).toNat : Int) = 99 := fun _ => rfl
  go_enter Tryz.func110, Tryz.ntmps110
  go_wp2
  go_loopw [4, 5] (fun vf vi wr => ∃ (k : Nat) (f : Bool), k ≤ 3 ∧ vi = .int .i64 (2 * k : Nat) ∧ vf = .bool f ∧ wr = w ∧ Hid (f = true → (0 < k → a.size = 1) ∧ (1 < k → b.size = 1) ∧ (2 < k → c.size = 1))) (fun _ vi _ => 6 - (intOf vi).toNat)
  case atStart => exact ⟨0, true, by omega, rfl, rfl, rfl, Lib.hid (fun _ => ⟨fun h => absurd h (by omega), fun h => absurd h (by omega), fun h => absurd h (by omega)⟩)⟩
  case round =>
    obtain ⟨k, f, hk, rfl, rfl, hw, HF⟩ := hrel
    replace hw := hw.symm
    subst hw
    by_cases hlt : k < 3
    · clear hsc B97 B98 B99 HCV qT
      obtain rfl | rfl | rfl : k = 0 ∨ k = 1 ∨ k = 2 := by omega
      · by_cases hx : a.size = 1
        · have HX := Lib.hid hx
          have t1 : (a.size : Int) = 1 := by omega
          clear hx
          go_wp2
          go_roundw
          case rel => exact ⟨1, f, by omega, by go_num, by first | rfl | trivial, by first | rfl | trivial, Lib.hid (fun hf => ⟨fun _ => HX.out, fun h => absurd h (by omega), fun h => absurd h (by omega)⟩)⟩
          case measure => simp [intOf]
        · have t1 : ¬ (a.size : Int) = 1 := by omega
          clear hx
          go_wp2
          go_roundw
          case rel => exact ⟨1, false, by omega, by go_num, by first | rfl | trivial, by first | rfl | trivial, Lib.hid (fun hf => by cases hf)⟩
          case measure => simp [intOf]
      · by_cases hx : b.size = 1
        · have HX := Lib.hid hx
          have t1 : (b.size : Int) = 1 := by omega
          clear hx
          go_wp2
          go_roundw
          case rel => exact ⟨2, f, by omega, by go_num, by first | rfl | trivial, by first | rfl | trivial, Lib.hid (fun hf => ⟨fun _ => (HF.out hf).1 (by omega), fun _ => HX.out, fun h => absurd h (by omega)⟩)⟩
          case measure => simp [intOf]
        · have t1 : ¬ (b.size : Int) = 1 := by omega
          clear hx
          go_wp2
          go_roundw
          case rel => exact ⟨2, false, by omega, by go_num, by first | rfl | trivial, by first | rfl | trivial, Lib.hid (fun hf => by cases hf)⟩
          case measure => simp [intOf]
      · by_cases hx : c.size = 1
        · have HX := Lib.hid hx
          have t1 : (c.size : Int) = 1 := by omega
          clear hx
          go_wp2
          go_roundw
          case rel => exact ⟨3, f, by omega, by go_num, by first | rfl | trivial, by first | rfl | trivial, Lib.hid (fun hf => ⟨fun _ => (HF.out hf).1 (by omega), fun _ => (HF.out hf).2.1 (by omega), fun _ => HX.out⟩)⟩
          case measure => simp [intOf]
        · have t1 : ¬ (c.size : Int) = 1 := by omega
          clear hx
          go_wp2
          go_roundw
          case rel => exact ⟨3, false, by omega, by go_num, by first | rfl | trivial, by first | rfl | trivial, Lib.hid (fun hf => by cases hf)⟩
          case measure => simp [intOf]
    obtain rfl : k = 3 := by omega
    obtain rfl : f = false := by
      cases f with
      | false => rfl
      | true => exact absurd (have h := HF.out rfl; ⟨h.1 (by omega), h.2.1 (by omega), h.2.2 (by omega)⟩) HS.out
    clear HF HS hlt hk
    go_upto_region 26 with fail
    have hmk := run_make (P := Tryz.prog) w 51 9 i0 (.string ⟨#[]⟩) Tryz.underlying51 hi hz0 .i64 .i64 0 3 (by omega) (by omega) (by rw [hz2]; omega) (by omega)
    rw [hz1] at hmk
    clear hi hz0 hz1 hz2
    go_wp2
    have S := ((Star.nil w).alloc (cs := madeCells #[.string ⟨#[]⟩] 3) (ty := 9)).alloc (cs := Tryz.zeroCells173.setIfInBounds 256 (.slice (some ⟨w.heap.size, 0, none⟩) 0 3)) (ty := tBst)
    rw [World.size_alloc, csS_zero] at S
    replace S := ((S.sel [1, 0]).litCap (α := ByteArray) (E := strE) (n := 3) (by rw [Array.length_toList, size_madeCells]; rfl) (by decide)).sel [1, 0]
    generalize hW : (w.alloc _).alloc _ = w1 at S ⊢
    obtain ⟨q, hq⟩ : ∃ q, q = w.heap.size + 1 := ⟨_, rfl⟩
    obtain ⟨t0, ht0⟩ : ∃ t0 : Value, t0 = .slice (some ⟨w.heap.size, 0, none⟩) 0 3 := ⟨_, rfl⟩
    rw [← hq, ← ht0] at S
    rw [← hq]
    have hne : ¬ jb = q := by omega
    have hne' : ¬ q = jb := by omega
    have HQ := Lib.hid hq; have HT0 := Lib.hid ht0
    rw [show (Value.slice (some ⟨w.heap.size, 0, none⟩) 0 3) = t0 from ht0.symm]
    clear hW hsc hmk hq ht0
    refine wp_loop_rounds 4 ?_
    rw [rounds_succ]
    have d4 := (S.below.cell hjb).trans c4
    have d5 := (S.below.cell hjb).trans c5
    have n1 := (S.blk 0 rfl).cell 99 (csS_99 (.slice none 0 0) (.slice none 0 0) (.slice none 0 0) t0)
    have n2 := (S.blk 0 rfl).cell 256 (csS_256 (.slice none 0 0) (.slice none 0 0) (.slice none 0 0) t0)
    have SB := ((S.alloc (cs := #[.int .u8 99]) (ty := 5)).alloc (cs := #[.string ⟨#[99]⟩]) (ty := 9)).str (x := ⟨#[99]⟩) (by decide)
    rw [World.size_alloc] at SB
    replace SB := SB.sel [4, 0, 3]
    go_upto_region 34 with (at_builtin; refine st1_StringS SB rfl rfl rfl rfl cell_a2 (one_mem rfl) (by simp) ?_; intro ta tn tc w3 S3; have y1 := (S3.blk 1 rfl).cell 256 (csS_256 (.slice none 0 0) (.slice none 0 0) (.slice none 0 0) t0); have y2 := (S3.blk 1 rfl).free 256)
    have S4 : Star w (w3.setCell ⟨q, 256, none⟩ (.slice ta tn tc)) [oB q (csS (.slice none 0 0) (.slice none 0 0) (.slice none 0 0) (.slice ta tn tc)) tBst, oE strsE [.slice ta tn tc] [⟨#[99]⟩]] := (S3.sel [1, 0]).set 256 (.slice ta tn tc)
    generalize hW : w3.setCell _ _ = w4 at S4 ⊢
    have SY := S4.bytesOf 5 c
    have z1 := (SY.blk 1 rfl).cell 99 (csS_99 (.slice none 0 0) (.slice none 0 0) (.slice none 0 0) (.slice ta tn tc))
    have z2 := (SY.blk 1 rfl).free 99
    clear hW y1 y2 n1 n2 SB S S3 S4 d4 d5
    go_wp2
    generalize hG : w4.heap.size = q99 at SY ⊢
    generalize hC : grownCap w4 _ _ _ = k99
    generalize hW : Lib.bytesWorld w4 _ _ = w1 at SY ⊢
    obtain ⟨t1, ht1⟩ : ∃ t1 : Value, t1 = .slice ta tn tc := ⟨_, rfl⟩
    rw [← ht1] at SY
    have S : Star w (w1.setCell ⟨q, 99, none⟩ (.slice (some ⟨q99, 0, none⟩) c.size k99)) [oB q (csS (.slice none 0 0) (.slice none 0 0) (.slice (some ⟨q99, 0, none⟩) c.size k99) t1) tBst, oE strsE [t1] [⟨#[99]⟩], oY q99 c.data.toList] := (SY.sel [1, 2, 0]).set 99 _
    generalize hW2 : w1.setCell _ _ = w2 at S ⊢
    have HT1 := Lib.hid ht1
    clear hG hC hW hW2 SY z1 z2 ht1
    rw [rounds_succ]
    have d2 := (S.below.cell hjb).trans c2
    have d3 := (S.below.cell hjb).trans c3
    have n1 := (S.blk 0 rfl).cell 98 (csS_98 (.slice none 0 0) (.slice none 0 0) (.slice (some ⟨q99, 0, none⟩) c.size k99) t1)
    have n2 := (S.blk 0 rfl).cell 256 (csS_256 (.slice none 0 0) (.slice none 0 0) (.slice (some ⟨q99, 0, none⟩) c.size k99) t1)
    have SB := ((S.alloc (cs := #[.int .u8 98]) (ty := 5)).alloc (cs := #[.string ⟨#[98]⟩]) (ty := 9)).str (x := ⟨#[98]⟩) (by decide)
    rw [World.size_alloc] at SB
    replace SB := SB.sel [4, 0, 3, 5]
    go_upto_region 34 with (at_builtin; refine st1_StringS SB rfl rfl rfl rfl cell_a2 (one_mem rfl) (by simp) ?_; intro ta tn tc w3 S3; have y1 := (S3.blk 1 rfl).cell 256 (csS_256 (.slice none 0 0) (.slice none 0 0) (.slice (some ⟨q99, 0, none⟩) c.size k99) t1); have y2 := (S3.blk 1 rfl).free 256)
    have S4 : Star w (w3.setCell ⟨q, 256, none⟩ (.slice ta tn tc)) [oB q (csS (.slice none 0 0) (.slice none 0 0) (.slice (some ⟨q99, 0, none⟩) c.size k99) (.slice ta tn tc)) tBst, oE strsE [.slice ta tn tc] [⟨#[99]⟩, ⟨#[98]⟩], oY q99 c.data.toList] := (S3.sel [1, 0, 2]).set 256 (.slice ta tn tc)
    generalize hW : w3.setCell _ _ = w4 at S4 ⊢
    have SY := S4.bytesOf 5 b
    have z1 := (SY.blk 1 rfl).cell 98 (csS_98 (.slice none 0 0) (.slice none 0 0) (.slice (some ⟨q99, 0, none⟩) c.size k99) (.slice ta tn tc))
    have z2 := (SY.blk 1 rfl).free 98
    clear hW y1 y2 n1 n2 SB S S3 S4 d2 d3
    go_wp2
    generalize hG : w4.heap.size = q98 at SY ⊢
    generalize hC : grownCap w4 _ _ _ = k98
    generalize hW : Lib.bytesWorld w4 _ _ = w1 at SY ⊢
    obtain ⟨t2, ht2⟩ : ∃ t2 : Value, t2 = .slice ta tn tc := ⟨_, rfl⟩
    rw [← ht2] at SY
    have S : Star w (w1.setCell ⟨q, 98, none⟩ (.slice (some ⟨q98, 0, none⟩) b.size k98)) [oB q (csS (.slice none 0 0) (.slice (some ⟨q98, 0, none⟩) b.size k98) (.slice (some ⟨q99, 0, none⟩) c.size k99) t2) tBst, oE strsE [t2] [⟨#[99]⟩, ⟨#[98]⟩], oY q98 b.data.toList, oY q99 c.data.toList] := (SY.sel [1, 2, 0, 3]).set 98 _
    generalize hW2 : w1.setCell _ _ = w2 at S ⊢
    have HT2 := Lib.hid ht2
    clear hG hC hW hW2 SY z1 z2 ht2
    rw [rounds_succ]
    have d0 := (S.below.cell hjb).trans c0
    have d1 := (S.below.cell hjb).trans c1
    have n1 := (S.blk 0 rfl).cell 97 (csS_97 (.slice none 0 0) (.slice (some ⟨q98, 0, none⟩) b.size k98) (.slice (some ⟨q99, 0, none⟩) c.size k99) t2)
    have n2 := (S.blk 0 rfl).cell 256 (csS_256 (.slice none 0 0) (.slice (some ⟨q98, 0, none⟩) b.size k98) (.slice (some ⟨q99, 0, none⟩) c.size k99) t2)
    have SB := ((S.alloc (cs := #[.int .u8 97]) (ty := 5)).alloc (cs := #[.string ⟨#[97]⟩]) (ty := 9)).str (x := ⟨#[97]⟩) (by decide)
    rw [World.size_alloc] at SB
    replace SB := SB.sel [4, 0, 3, 5, 6]
    go_upto_region 34 with (at_builtin; refine st1_StringS SB rfl rfl rfl rfl cell_a2 (one_mem rfl) (by simp) ?_; intro ta tn tc w3 S3; have y1 := (S3.blk 1 rfl).cell 256 (csS_256 (.slice none 0 0) (.slice (some ⟨q98, 0, none⟩) b.size k98) (.slice (some ⟨q99, 0, none⟩) c.size k99) t2); have y2 := (S3.blk 1 rfl).free 256)
    have S4 : Star w (w3.setCell ⟨q, 256, none⟩ (.slice ta tn tc)) [oB q (csS (.slice none 0 0) (.slice (some ⟨q98, 0, none⟩) b.size k98) (.slice (some ⟨q99, 0, none⟩) c.size k99) (.slice ta tn tc)) tBst, oE strsE [.slice ta tn tc] [⟨#[99]⟩, ⟨#[98]⟩, ⟨#[97]⟩], oY q98 b.data.toList, oY q99 c.data.toList] := (S3.sel [1, 0, 2, 3]).set 256 (.slice ta tn tc)
    generalize hW : w3.setCell _ _ = w4 at S4 ⊢
    have SY := S4.bytesOf 5 a
    have z1 := (SY.blk 1 rfl).cell 97 (csS_97 (.slice none 0 0) (.slice (some ⟨q98, 0, none⟩) b.size k98) (.slice (some ⟨q99, 0, none⟩) c.size k99) (.slice ta tn tc))
    have z2 := (SY.blk 1 rfl).free 97
    clear hW y1 y2 n1 n2 SB S S3 S4 d0 d1
    go_wp2
    generalize hG : w4.heap.size = q97 at SY ⊢
    generalize hC : grownCap w4 _ _ _ = k97
    generalize hW : Lib.bytesWorld w4 _ _ = w1 at SY ⊢
    obtain ⟨t3, ht3⟩ : ∃ t3 : Value, t3 = .slice ta tn tc := ⟨_, rfl⟩
    rw [← ht3] at SY
    have S : Star w (w1.setCell ⟨q, 97, none⟩ (.slice (some ⟨q97, 0, none⟩) a.size k97)) [oB q (csS (.slice (some ⟨q97, 0, none⟩) a.size k97) (.slice (some ⟨q98, 0, none⟩) b.size k98) (.slice (some ⟨q99, 0, none⟩) c.size k99) t3) tBst, oE strsE [t3] [⟨#[99]⟩, ⟨#[98]⟩, ⟨#[97]⟩], oY q97 a.data.toList, oY q98 b.data.toList, oY q99 c.data.toList] := (SY.sel [1, 2, 0, 3, 4]).set 97 _
    generalize hW2 : w1.setCell _ _ = w2 at S ⊢
    have HT3 := Lib.hid ht3
    clear hG hC hW hW2 SY z1 z2 ht3
    rw [rounds_succ]
    go_wp2
    go_ret
    obtain ⟨sa, sc, ht⟩ := S.slcN 1 rfl
    exact ⟨_, rfl, (S.sel [0, 2, 3, 4]).toBst (csS_97 _ _ _ _) (csS_98 _ _ _ _) (csS_99 _ _ _ _) ((csS_256 _ _ _ _).trans (congrArg some ht))⟩

end Go.Proofs.YtcifdkliiljmkaaGreatDoor
