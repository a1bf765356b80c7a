/-
  A text through the library's replacer of bytes by strings.
-/
import Derived.Test.YtcifdkliiljmkaaGreatDoorRepBK
import Derived.Test.YtcifdkliiljmkaaGreatDoorCalmPK
import Derived.WalkSpells
import Derived.Laws.CopyOwn
namespace Go.Proofs.YtcifdkliiljmkaaGreatDoor
open Go.RowKit Go.PlainAid

theorem fm_take (f : UInt8 → List UInt8) (l : List UInt8) (k : Nat) (h : k < l.length) : (l.take (k + 1)).flatMap f = (l.take k).flatMap f ++ f (l.getD k 0) := by
  rw [List.take_succ_eq_append_getElem h, List.flatMap_append, List.getD_eq_getElem?_getD, List.getElem?_eq_getElem h]
  simp
theorem fm_le (f : UInt8 → List UInt8) (l : List UInt8) (k : Nat) : ((l.take k).flatMap f).length ≤ (l.flatMap f).length := by
  conv => rhs; rw [← List.take_append_drop k l, List.flatMap_append, List.length_append]
  omega
theorem fm_bound (f : UInt8 → List UInt8) : ∀ l : List UInt8, (∀ c, c ∈ l → (f c).length ≤ 3) → (l.flatMap f).length ≤ 3 * l.length
  | [], _ => by simp
  | c :: l, h => by
    have h1 := h c (by simp)
    have h2 := fm_bound f l (fun x hx => h x (by simp [hx]))
    rw [List.flatMap_cons, List.length_append, List.length_cons]
    omega

theorem Star.ge {w0 w : World} {ps : List Ob} {b : Nat} {cs : List Value} {ty : TypeId} (S : Star w0 w (oB b cs ty :: ps)) : w0.heap.size ≤ b := by
  obtain ⟨_, fp, hh, _⟩ := S
  obtain ⟨h1, -, h3⟩ := hh 0 _ rfl
  exact (h3 b (by rw [h1.2]; simp)).1
theorem Star.one {w0 w : World} {b : Nat} {cs : List Value} {ty : TypeId} (hb : Below w0.heap.size w0 w) (h : Blk w b cs ty) (hlo : w0.heap.size ≤ b) : Star w0 w [oB b cs ty] :=
  ⟨hb, fun _ => [b], fun i P hP => by
    match i, hP with
    | 0, hP =>
      obtain rfl : _ = P := by simpa using hP
      exact ⟨⟨h, rfl⟩, by simp, fun x hx => by rw [List.mem_singleton.1 hx]; exact ⟨hlo, h.lt⟩⟩, fun i j hij hi hj => by simp at hi hj; omega⟩

/-- The letters as cells. -/
def cellsU (l : List UInt8) : List Value := l.map fun b => Value.int .u8 (b.toNat : Int)
theorem cellsU_len (l : List UInt8) : (cellsU l).length = l.length := by simp [cellsU]
theorem cellsU_app (l k : List UInt8) : cellsU (l ++ k) = cellsU l ++ cellsU k := by simp [cellsU]

theorem inf_U8 : (Tryz.prog.info? 5).map (fun i => (i.zero, i.size, i.bytes)) = some (some (.int .u8 0), 1, 1) := by kernel_rfl

theorem cells_splice (z : Value) (N : Nat) (P : List UInt8) (X : List UInt8) (h : P.length + X.length ≤ N) :
    (cellsU P ++ List.replicate (N - P.length) z).take P.length ++ cellsU X ++ (cellsU P ++ List.replicate (N - P.length) z).drop (P.length + X.length) = cellsU (P ++ X) ++ List.replicate (N - (P ++ X).length) z := by
  rw [List.take_append_of_le_length (by rw [cellsU_len]; exact Nat.le_refl _), List.take_of_length_le (by rw [cellsU_len]; exact Nat.le_refl _)]
  rw [List.drop_append, List.drop_of_length_le (by rw [cellsU_len]; omega), List.nil_append, cellsU_len, List.drop_replicate, cellsU_app, List.length_append]
  congr 2
  omega

set_option maxHeartbeats 8000000 in
set_option maxRecDepth 100000 in
theorem bstRep_any (f : UInt8 → List UInt8) (q : Nat) (t : Option Addr) (tc : Nat) (T : ByteArray) (w : World) (hT : T.size ≤ 3) (h256 : w.cell? ⟨q, 256, none⟩ = some (.slice t 3 tc))
    (hq : ∀ c, c ∈ T.data.toList → (f c).length ≤ 3 ∧ ∃ qb kb, w.cell? ⟨q, c.toNat, none⟩ = some (.slice (some ⟨qb, 0, none⟩) (f c).length kb) ∧ YB w qb (f c)) :
    Calls Tryz.prog 195 #[.pointer (some ⟨q, 0, none⟩), .string T] w (Gives (.string ⟨(T.data.toList.flatMap f).toArray⟩) w) := by
  obtain ⟨l, hl⟩ : ∃ l, l = T.data.toList := ⟨_, rfl⟩
  have hln : l.length = T.size := by rw [hl]; exact (Lib.size_eq T).symm
  have hb := get_bt T
  have HBT := Lib.hid (fun k h => bt_getD T k h)
  have HBK := Lib.hid (fun w g cap (l : List UInt8) => run_convert_bytes_back (P := Tryz.prog) w 127 9 5 ⟨g, 0, none⟩ cap l Tryz.underlying127 Tryz.underlying5 Tryz.underlying9)
  obtain ⟨hi0, hi, hz0, hz1, hz2⟩ := info_parts inf_U8
  have HMK := Lib.hid (fun n h1 h2 => make_run (P := Tryz.prog) Tryz.underlying127 hi hz0 hz1 n h1 h2)
  rw [hz2] at HMK
  clear hi hz0 hz1 hz2 hi0
  have qT : ∀ (w : World) (a : Option Addr) (n c n' c' : Nat), (binOp .neq 127 (.slice a n c) (.slice none n' c')).run Tryz.prog w = .ok (.bool (!a.isNone)) w := fun w a n c n' c' => run_neq_slice_nil_any w _ _ a n c n' c' Tryz.underlying127
  obtain ⟨R, hR⟩ : ∃ R : ByteArray, R = ⟨(l.flatMap f).toArray⟩ := ⟨_, rfl⟩
  rw [← hl, ← hR]
  rw [← hl] at hq HBT
  have hbd := fm_bound f l (fun c hc => (hq c hc).1)
  obtain ⟨L, hL⟩ : ∃ L, L = (l.flatMap f).length := ⟨_, rfl⟩
  rw [← hL] at hbd
  have hL9 : L ≤ 9 := by omega
  have HQ := Lib.hid hq; have HLN := Lib.hid hln; have HR := Lib.hid hR; have HL := Lib.hid hl; have HLL := Lib.hid hL
  have t0 : ¬ (24 : Int) ≤ (T.size : Int) := by omega
  clear hq hln hR hl hbd hL
  go_enter Tryz.func195, Tryz.ntmps195
  go_wp2
  go_loopw [5, 6, 10] (fun v5 v6 vi wr => ∃ (k N : Nat) (c : Bool), k ≤ T.size ∧ vi = .int .i64 k ∧ v5 = .int .i64 N ∧ v6 = .bool c ∧ wr = w ∧ Hid (c = decide (0 < k)) ∧ Hid (N = ((l.take k).flatMap f).length + (T.size - k))) (fun _ _ vi _ => T.size - (intOf vi).toNat)
  case atStart => exact ⟨0, T.size, false, Nat.zero_le _, rfl, rfl, rfl, rfl, Lib.hid rfl, Lib.hid (by simp)⟩
  case round =>
    obtain ⟨k, N, c, hk, rfl, rfl, rfl, hw, HC, HN⟩ := hrel
    replace hw := hw.symm
    subst hw
    by_cases hlt : k < T.size
    case neg =>
      have t1 : ¬ (k : Int) < (T.size : Int) := by omega
      have hkk : k = T.size := by omega
      have hc := HC.out
      have hN := HN.out
      rw [List.take_of_length_le (by rw [HLN.out]; omega), ← HLL.out] at hN
      have hNL : N = L := by omega
      clear hN HN HC
      cases c with
      | false =>
        have hk0 : k = 0 := by
          have := hc.symm
          simpa using this
        have hl0 : l = [] := List.eq_nil_of_length_eq_zero (by rw [HLN.out]; omega)
        have hRT : R = T := by rw [HR.out, hl0]; exact (by have h := HL.out; rw [hl0] at h; obtain ⟨a⟩ := T; have : a = #[] := Array.toList_inj.1 h.symm; rw [this]; rfl)
        have HRT := Lib.hid hRT
        clear hRT hl0 hk0 hc hNL hkk
        go_wp2
        go_ret
        exact ⟨by rw [HRT.out]; rfl, Below.refl _ _⟩
      | true =>
        subst hNL
        have hmk := HMK.out N (by omega) (by omega)
        clear HMK hc hkk
        have S := (Star.nil w).alloc (cs := madeCells #[.int .u8 0] N) (ty := 5)
        rw [made_alike #[.int .u8 0] (.int .u8 0) (by intro i hi; match i, hi with | 0, _ => rfl) (by decide) N] at S
        go_wp2
        generalize hW : w.alloc _ = w1 at S ⊢
        generalize hG : w.heap.size = g at S ⊢
        clear hW hmk hG t1 hlt hk h256
        go_loopw [13, 14] (fun vj vi w2 => ∃ i j : Nat, i ≤ T.size ∧ vi = .int .i64 i ∧ vj = .int .i64 j ∧ Hid (j = ((l.take i).flatMap f).length) ∧ Star w w2 [oB g (cellsU ((l.take i).flatMap f) ++ List.replicate (N - ((l.take i).flatMap f).length) (.int .u8 0)) 5]) (fun _ vi _ => T.size - (intOf vi).toNat)
        case atStart => exact ⟨0, 0, Nat.zero_le _, rfl, rfl, Lib.hid rfl, by simpa [cellsU] using S⟩
        case round =>
          clear S
          obtain ⟨i, j, hi, rfl, rfl, HJ, S⟩ := hrel
          by_cases hit : i < T.size
          case neg =>
            have t1 : ¬ (i : Int) < (T.size : Int) := by omega
            rw [List.take_of_length_le (by rw [HLN.out]; omega), ← HLL.out, Nat.sub_self, List.replicate_zero, List.append_nil] at S
            have hbk := HBK.out wr g N (l.flatMap f) (fun j hj => by
              rw [addr_add0]
              refine (S.blk 0 rfl).cell j ?_
              simp [cellsU, List.getElem?_eq_getElem hj])
            rw [← HLL.out, ← HR.out] at hbk
            have hBl := S.below
            clear HJ S
            go_wp2
            go_ret
            exact ⟨rfl, hBl⟩
          obtain ⟨x, hx⟩ : ∃ x, x = l.getD i 0 := ⟨_, rfl⟩
          have hkl : i < l.length := by rw [HLN.out]; exact hit
          have hb2 := HBT.out i hit
          have hmem : l.getD i 0 ∈ l := by rw [List.getD_eq_getElem?_getD, List.getElem?_eq_getElem hkl]; exact List.getElem_mem hkl
          obtain ⟨h3, qb, kb, hc, hy⟩ := HQ.out _ hmem
          have hft := fm_take f l i hkl
          rw [← hx] at hb2 hc h3 hft hy
          obtain ⟨m, hm⟩ : ∃ m, m = (f x).length := ⟨_, rfl⟩
          rw [← hm] at hc h3
          have hle := fm_le f l (i + 1)
          rw [← HLL.out, hft, List.length_append, ← hm] at hle
          obtain ⟨P, hP⟩ : ∃ P, P = (l.take i).flatMap f := ⟨_, rfl⟩
          have hj := HJ.out
          rw [← hP] at hft hle hj S
          rw [← hj] at hle
          obtain ⟨d, hd⟩ : ∃ d : Nat, d = x.toNat := ⟨_, rfl⟩
          rw [← hd] at hb2 hc
          have hd2 : d < 256 := by rw [hd]; exact x.toNat_lt
          have t1 : (i : Int) < (T.size : Int) := by omega
          have t2 : (d : Int) < 256 := by omega
          have t3 : (0 : Int) ≤ (d : Int) := by omega
          have HFT := Lib.hid hft; have HM := Lib.hid hm; have HJ2 := Lib.hid hj; have HY := Lib.hid hy
          clear HJ hP hd hm hx hkl hmem hft hj hy
          have hc1 := (S.below.cell (World.block_lt_of_cell? _ _ hc)).trans hc
          go_upto_region 28 with fail
          have HC1 := Lib.hid hc
          clear hc1 hc
          refine wp_region_p [0] 13 (by kernel_rfl) rfl ?_
          intro w5 b5
          replace S := S.step b5
          clear b5
          have hc1 := (S.below.cell (World.block_lt_of_cell? _ _ HC1.out)).trans HC1.out
          have hql := World.block_lt_of_cell? w5 _ hc1
          have hov := cell_over w5
          have hjN : (j : Int) ≤ (N : Int) := by omega
          have hcl : (cellsU (f x)).length = m := by rw [cellsU_len]; exact HM.out.symm
          have uj : IntKind.i64.wrap ((j : Int) + (m : Int)) = ((j + m : Nat) : Int) := by rw [IntWalk.i64_in _ ⟨by omega, by omega⟩]; omega
          refine wpP_pure 0 rfl rfl (by kernel_rfl) (Nat.le_refl _) (fun _ d _ _ _ h => by cases d <;> exact h) ?_
          go_big_quiet_step (fail)
          refine wpQuiet_nil ?_
          refine wpP_read 1 rfl rfl (by kernel_rfl) rfl (fun _ d _ _ _ h => by cases d <;> exact h) ?_
          go_big_quiet_step (fail)
          refine wpQuiet_nil ?_
          refine wpP_read 2 rfl rfl (by kernel_rfl) rfl (fun _ d _ _ _ h => by cases d <;> exact h) ?_
          go_big_quiet_step (fail)
          refine wpQuiet_nil ?_
          refine wpP_read 3 rfl rfl (by kernel_rfl) rfl (fun _ d _ _ _ h => by cases d <;> exact h) ?_
          go_big_quiet_step (fail)
          refine wpQuiet_nil ?_
          refine wpP_read 4 rfl rfl (by kernel_rfl) rfl (fun _ d _ _ _ h => by cases d <;> exact h) ?_
          go_big_quiet_step (fail)
          refine wpQuiet_nil ?_
          refine wpP_read 5 rfl rfl (by kernel_rfl) rfl (fun _ d _ _ _ h => by cases d <;> exact h) ?_
          go_big_quiet_step (fail)
          refine wpQuiet_nil ?_
          refine wpP_read 6 rfl rfl (by kernel_rfl) rfl (fun _ d _ _ _ h => by cases d <;> exact h) ?_
          go_big_quiet_step (fail)
          refine wpQuiet_nil ?_
          refine wpP_read 7 rfl rfl (by kernel_rfl) rfl (fun _ d _ _ _ h => by cases d <;> exact h) ?_
          go_big_quiet_step (fail)
          refine wpQuiet_nil ?_
          refine wpP_read 8 rfl rfl (by kernel_rfl) rfl (fun _ d _ _ _ h => by cases d <;> exact h) ?_
          go_big_quiet_step (fail)
          refine wpQuiet_nil ?_
          refine wpP_read 9 rfl rfl (by kernel_rfl) rfl (fun _ d _ _ _ h => by cases d <;> exact h) ?_
          go_big_quiet_step (fail)
          refine wpQuiet_nil ?_
          clear hov
          refine wpP_ready [10] (by kernel_rfl) (by decide) (AllP.cons rfl (fun w6 b6 K hK => ?_) AllP.nil)
          have S6 := S.step b6
          refine step_copy_splice rfl (.tmp 105) (.tmp 111) 127 127 rfl 5 Tryz.underlying127 (by kernel_rfl) _ _ _ _ _ _ rfl rfl g j (cellsU P ++ List.replicate (N - P.length) (.int .u8 0)) 5 (S6.blk 0 rfl) (cellsU (f x)) ?_ ?_ ?_ ?_ w.heap.size w6 (Below.refl _ _) ?_ ?_
          · rw [hcl]; exact (Nat.min_eq_left (by omega)).symm
          · intro h0
            rw [hcl] at h0
            refine ⟨by rw [if_neg (by omega)], _, rfl, fun i v hv => ?_⟩
            rw [addr_add0]
            have hi : i < (f x).length := by have := (List.getElem?_eq_some_iff.1 hv).1; rw [cellsU_len] at this; exact this
            have h6 := ((HY.out.same (S6.below.block _ HY.out.lt)).cell i hi)
            rw [h6]
            simp only [cellsU, List.getElem?_map, List.getElem?_eq_getElem hi, Option.map_some, Option.some.injEq] at hv
            rw [← hv, List.getD_eq_getElem?_getD, List.getElem?_eq_getElem hi]
            rfl
          · rw [hcl, List.length_append, cellsU_len, List.length_replicate, ← HJ2.out]; omega
          · intro v hv
            simp only [cellsU, List.mem_map] at hv
            obtain ⟨b, -, rfl⟩ := hv
            rfl
          · exact S6.ge
          intro w7 h7 b7
          rw [hcl]
          have hg := S6.ge
          have S7 : Star w w7 [oB g (cellsU (P ++ f x) ++ List.replicate (N - (P ++ f x).length) (.int .u8 0)) 5] := by
            refine Star.one (S6.below.trans b7) ?_ hg
            have h8 := h7.out
            unfold splice at h8
            rw [← List.append_assoc, cellsU_len, HJ2.out, cells_splice _ _ _ _ (by rw [← HM.out, ← HJ2.out]; omega)] at h8
            exact h8
          have hz := Nat.le_trans b6.size b7.size
          try go_simp
          refine hK _ _ (.inl ⟨alone_of (by kernel_rfl), hz⟩) ?_
          clear hK K h7 b7 S6 S b6
          refine wpP_pure 11 rfl rfl (by kernel_rfl) hz (fun _ d _ _ _ h => by cases d <;> exact h) ?_
          go_big_quiet_step (fail)
          refine wpQuiet_nil ?_
          refine wpP_pure 12 rfl rfl (by kernel_rfl) hz (fun _ d _ _ _ h => by cases d <;> exact h) ?_
          go_big_quiet_step (fail)
          refine wpQuiet_nil ?_
          refine wpP_done (by kernel_rfl) (fun w8 b8 => ?_)
          have S8 := S7.step b8
          clear S7 b8 hz
          go_wp2
          go_roundw
          case rel => exact ⟨i + 1, j + m, by omega, by go_num, by go_num, Lib.hid (by rw [HFT.out, List.length_append, ← HM.out, ← HJ2.out]), by rw [HFT.out]; exact S8⟩
          case measure => simp [intOf]; omega
    obtain ⟨x, hx⟩ : ∃ x, x = l.getD k 0 := ⟨_, rfl⟩
    have hkl : k < l.length := by rw [HLN.out]; exact hlt
    have hb2 := HBT.out k hlt
    have hmem : l.getD k 0 ∈ l := by rw [List.getD_eq_getElem?_getD, List.getElem?_eq_getElem hkl]; exact List.getElem_mem hkl
    obtain ⟨h3, qb, kb, hc, -⟩ := HQ.out _ hmem
    have hft := fm_take f l k hkl
    rw [← hx] at hb2 hc h3 hft
    obtain ⟨m, hm⟩ : ∃ m, m = (f x).length := ⟨_, rfl⟩
    rw [← hm] at hc h3
    have hftl : ((l.take (k + 1)).flatMap f).length = ((l.take k).flatMap f).length + m := by rw [hft, List.length_append, ← hm]
    have hle := fm_le f l (k + 1)
    rw [← HLL.out, hftl] at hle
    obtain ⟨P, hP⟩ : ∃ P, P = ((l.take k).flatMap f).length := ⟨_, rfl⟩
    have hN := HN.out
    rw [← hP] at hN hftl hle
    obtain ⟨d, hd⟩ : ∃ d : Nat, d = x.toNat := ⟨_, rfl⟩
    rw [← hd] at hb2 hc
    have hd2 : d < 256 := by rw [hd]; exact x.toNat_lt
    have HF := Lib.hid hftl
    have t1 : (k : Int) < (T.size : Int) := by omega
    have t2 : (d : Int) < 256 := by omega
    have t3 : (0 : Int) ≤ (d : Int) := by omega
    have u1 : IntKind.i64.wrap ((m : Int) - 1) = (m : Int) - 1 := IntWalk.i64_in _ ⟨by omega, by omega⟩
    have hN1 : 1 ≤ N := by omega
    have u2 : IntKind.i64.wrap ((N : Int) + ((m : Int) - 1)) = ((N + m - 1 : Nat) : Int) := by rw [IntWalk.i64_in _ ⟨by omega, by omega⟩]; omega
    have HNN := Lib.hid hN
    clear HN hN hP hd hm hx hkl hmem hft hftl
    go_wp2
    go_roundw
    case rel => exact ⟨k + 1, N + m - 1, true, by omega, by go_num, by first | rfl | trivial, by first | rfl | trivial, by first | rfl | trivial, Lib.hid (by simp), Lib.hid (by rw [HF.out]; have := HNN.out; omega)⟩
    case measure => simp [intOf]; omega

end Go.Proofs.YtcifdkliiljmkaaGreatDoor
