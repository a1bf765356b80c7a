/-
  A text through the library's replacer of bytes by bytes.
-/
import Derived.Test.YtcifdkliiljmkaaGreatDoorRepOK
import Derived.Lib.Hide
import Derived.Lib.SliceRun
import Derived.Deep.DeepCutAuto
import Derived.Laws.IdiomStrings
namespace Go.Proofs.YtcifdkliiljmkaaGreatDoor
open Go.RowKit Go.PlainAid

theorem bt_getD (X : ByteArray) (k : Nat) (h : k < X.size) : bt X k = (((X.data.toList.getD k 0).toNat : Nat) : Int) := by
  unfold bt
  rw [dif_pos h]
  have h2 : k < X.data.size := h
  rw [List.getD_eq_getElem?_getD, show X.data.toList[k]? = some X.data[k] from by simp [h2]]
  rfl

theorem addr_add0 (g j : Nat) : (⟨g, 0, none⟩ : Addr).add j = ⟨g, j, none⟩ := by
  unfold Addr.add
  split
  · rename_i h; simp [h]
  · simp

theorem mixb_set (fn : UInt8 → UInt8) (l : List UInt8) (k : Nat) (h : k < l.length) : ((l.take k).map fn ++ l.drop k).set k (fn (l.getD k 0)) = (l.take (k + 1)).map fn ++ l.drop (k + 1) := by
  have := mix_set fn id l k h
  simp only [List.map_id] at this
  rw [← this, List.getD_eq_getElem?_getD, List.getElem?_eq_getElem h]
  rfl
theorem mixb_same (fn : UInt8 → UInt8) (l : List UInt8) (k : Nat) (h : k < l.length) (hx : fn (l.getD k 0) = l.getD k 0) : (l.take k).map fn ++ l.drop k = (l.take (k + 1)).map fn ++ l.drop (k + 1) := by
  rw [← mixb_set fn l k h, hx]
  have := List.getElem?_eq_getElem h
  apply List.ext_getElem?
  intro i
  rw [List.getElem?_set]
  split
  · rename_i e
    subst e
    have hl : ((l.take k).map fn).length = k := by rw [List.length_map, List.length_take]; omega
    have hlt : k < ((l.take k).map fn ++ l.drop k).length := by rw [List.length_append, hl, List.length_drop]; omega
    rw [if_pos hlt, List.getElem?_append_right (by omega), hl, Nat.sub_self, List.getElem?_drop, Nat.add_zero, this, List.getD_eq_getElem?_getD, this]
    rfl
  · rfl
theorem takeb_same (fn : UInt8 → UInt8) (l : List UInt8) (k : Nat) (h : k < l.length) (hx : fn (l.getD k 0) = l.getD k 0) (hs : (l.take k).map fn = l.take k) : (l.take (k + 1)).map fn = l.take (k + 1) := by
  have e : l.getD k 0 = l[k] := by rw [List.getD_eq_getElem?_getD, List.getElem?_eq_getElem h]; rfl
  rw [e] at hx
  rw [List.take_succ_eq_append_getElem h, List.map_append, hs, List.map_singleton, hx]

set_option maxHeartbeats 4000000 in
set_option maxRecDepth 100000 in
theorem byteRep_any (fn : UInt8 → UInt8) (q : Nat) (T : ByteArray) (w : World) (hT : T.size ≤ 1000000) (hq : ∀ c, c ∈ T.data.toList → w.cell? ⟨q, c.toNat, none⟩ = some (.int .u8 ((fn c).toNat : Int))) :
    Calls Tryz.prog 193 #[.pointer (some ⟨q, 0, none⟩), .string T] w (Gives (.string ⟨(T.data.toList.map fn).toArray⟩) w) := by
  obtain ⟨l, hl⟩ : ∃ l, l = T.data.toList := ⟨_, rfl⟩
  have hln : l.length = T.size := by rw [hl]; exact (Lib.size_eq T).symm
  have hb := get_bt T
  have HBT := Lib.hid (fun k h => bt_getD T k h)
  have HCV := fun w => Lib.run_convert_string_bytes (P := Tryz.prog) w 9 127 5 T Tryz.underlying9 Tryz.underlying127 Tryz.underlying5
  have HBK := Lib.hid (fun w g cap (l : List UInt8) => run_convert_bytes_back (P := Tryz.prog) w 127 9 5 ⟨g, 0, none⟩ cap l Tryz.underlying127 Tryz.underlying5 Tryz.underlying9)
  have qT : ∀ (w : World) (a : Option Addr) (n c n' c' : Nat), (binOp .eql 127 (.slice a n c) (.slice none n' c')).run Tryz.prog w = .ok (.bool a.isNone) w := fun w a n c n' c' => Lib.run_eql_slice_nil w _ _ a n c n' c' Tryz.underlying127
  obtain ⟨R, hR⟩ : ∃ R : ByteArray, R = ⟨(l.map fn).toArray⟩ := ⟨_, rfl⟩
  rw [← hl, ← hR]
  rw [← hl] at hq HBT
  have HQ := Lib.hid hq; have HLN := Lib.hid hln; have HR := Lib.hid hR; have HL := Lib.hid hl
  clear hq hln hR hl
  go_enter Tryz.func193, Tryz.ntmps193
  go_wp2
  go_loopw [5, 6] (fun vb vi wr => ∃ k : Nat, k ≤ T.size ∧ vi = .int .i64 k ∧ Hid ((vb = .slice none 0 0 ∧ Below w.heap.size w wr ∧ (l.take k).map fn = l.take k) ∨ ∃ g c, vb = .slice (some ⟨g, 0, none⟩) T.size c ∧ Star w wr [oY g ((l.take k).map fn ++ l.drop k)])) (fun _ vi _ => T.size - (intOf vi).toNat)
  case atStart => exact ⟨0, Nat.zero_le _, rfl, Lib.hid (.inl ⟨rfl, Below.refl _ _, by simp⟩)⟩
  case round =>
    obtain ⟨k, hk, rfl, HI⟩ := hrel
    by_cases hlt : k < T.size
    case neg =>
      have hkn : l.length ≤ k := by rw [HLN.out]; omega
      have t1 : ¬ (k : Int) < (T.size : Int) := by omega
      rcases HI.out with ⟨rfl, hB, hs⟩ | ⟨g, c, rfl, S⟩
      · have hRT : R = T := by
          rw [List.take_of_length_le hkn] at hs
          rw [HR.out, hs, HL.out]
        have HRT := Lib.hid hRT
        clear hs hRT HI hkn
        go_wp2
        go_ret
        exact ⟨by rw [HRT.out]; rfl, hB⟩
      · have e1 : (l.take k).map fn ++ l.drop k = l.map fn := by
          rw [List.take_of_length_le hkn, List.drop_of_length_le hkn, List.append_nil]
        rw [e1] at S
        have hbk := HBK.out wr g c (l.map fn) (fun j hj => by
          have := (S.yb 0 rfl).cell j hj
          rw [List.getD_eq_getElem?_getD, List.getElem?_eq_getElem hj] at this
          rw [addr_add0]
          simpa using this)
        rw [List.length_map, HLN.out, ← HR.out] at hbk
        have hBl := S.below
        clear e1 HI S hkn
        go_wp2
        go_ret
        exact ⟨rfl, hBl⟩
    obtain ⟨x, hx⟩ : ∃ x, x = l.getD k 0 := ⟨_, rfl⟩
    have hkl : k < l.length := by rw [HLN.out]; exact hlt
    have hb2 := HBT.out k hlt
    have hmem : l.getD k 0 ∈ l := by rw [List.getD_eq_getElem?_getD, List.getElem?_eq_getElem hkl]; exact List.getElem_mem hkl
    have hc := HQ.out _ hmem
    rw [← hx] at hb2 hc
    have HX := Lib.hid hx
    obtain ⟨y, hy⟩ : ∃ y, y = fn x := ⟨_, rfl⟩
    rw [← hy] at hc
    have HY := Lib.hid hy
    clear hx hmem hy
    obtain ⟨d, hd⟩ : ∃ d : Nat, d = x.toNat := ⟨_, rfl⟩
    obtain ⟨u, hu⟩ : ∃ u : Nat, u = y.toNat := ⟨_, rfl⟩
    rw [← hd] at hb2 hc
    rw [← hu] at hc
    have hd2 : d < 256 := by rw [hd]; exact x.toNat_lt
    have t1 : (k : Int) < (T.size : Int) := by omega
    have t2 : (d : Int) < 256 := by omega
    have HD := Lib.hid hd; have HU := Lib.hid hu
    clear hd hu hkl
    have hqb : q < w.heap.size := World.block_lt_of_cell? w _ hc
    by_cases hyx : u = d
    · -- the letter stays
      have hfx : fn (l.getD k 0) = l.getD k 0 := by
        rw [← HX.out, ← HY.out]
        exact UInt8.toNat_inj.1 (by rw [← HU.out, ← HD.out, hyx])
      have HF := Lib.hid hfx
      rw [hyx] at hc
      clear hfx hyx
      rcases HI.out with ⟨rfl, hB, hs⟩ | ⟨g, c, rfl, S⟩
      · have hc1 := (hB.cell hqb).trans hc
        have HS := Lib.hid hs
        clear hc HI hs
        go_wp2
        go_roundw
        case rel => exact ⟨k + 1, by omega, by go_num, Lib.hid (.inl ⟨rfl, hB, takeb_same fn l k (by rw [HLN.out]; exact hlt) HF.out HS.out⟩)⟩
        case measure => simp [intOf]; omega
      · have hc1 := (S.below.cell hqb).trans hc
        clear hc HI
        go_wp2
        go_roundw
        case rel => exact ⟨k + 1, by omega, by go_num, Lib.hid (.inr ⟨g, c, rfl, by rw [← mixb_same fn l k (by rw [HLN.out]; exact hlt) HF.out]; exact S⟩)⟩
        case measure => simp [intOf]; omega
    · -- it is changed
      have hyx2 : ¬ ((u : Int) = (d : Int)) := by omega
      have hst := mixb_set fn l k (by rw [HLN.out]; exact hlt)
      rw [← HX.out, ← HY.out] at hst
      have HST := Lib.hid hst
      clear hst hyx
      rcases HI.out with ⟨rfl, hB, hs⟩ | ⟨g, c, rfl, S⟩
      · have hc1 := (hB.cell hqb).trans hc
        have hl0 : l = (l.take k).map fn ++ l.drop k := by rw [hs, List.take_append_drop]
        have HL0 := Lib.hid hl0
        clear HI hs hl0
        go_upto_region 9 with fail
        have S := (Star.nil wr).bytesOf 5 T
        rw [← HL.out, HL0.out] at S
        have B9 := bytes_below wr 5 T
        generalize hW : Lib.bytesWorld wr _ _ = w1 at S B9 ⊢
        have hc2 := (B9.cell (Nat.lt_of_lt_of_le hqb hB.size)).trans hc1
        generalize hG : wr.heap.size = g at S ⊢
        generalize hC : grownCap wr _ _ _ = cc
        have hf := (S.yb 0 rfl).free k (by rw [List.length_append, List.length_map, List.length_take, List.length_drop, HLN.out]; omega)
        have hgc := (S.yb 0 rfl).cell k (by rw [List.length_append, List.length_map, List.length_take, List.length_drop, HLN.out]; omega)
        clear hc1 hG hC hW HCV
        have hBS := hB.size
        have hB2 := (hB.trans (B9.mono hBS))
        replace S : Star w w1 [oY g ((l.take k).map fn ++ l.drop k)] := by
          obtain ⟨_, fp, hh, d⟩ := S
          exact ⟨hB2, fp, fun i P hP => ⟨(hh i P hP).1, (hh i P hP).2.1, fun b hb => ⟨Nat.le_trans hBS ((hh i P hP).2.2 b hb).1, ((hh i P hP).2.2 b hb).2⟩⟩, d⟩
        clear hB2 hBS B9 hB
        go_wp2
        have S2 := S.setY k y
        rw [HST.out, ← HU.out] at S2
        go_roundw
        case rel => exact ⟨k + 1, by omega, by go_num, Lib.hid (.inr ⟨g, cc, rfl, S2⟩)⟩
        case measure => simp [intOf]; omega
      · have hc1 := (S.below.cell hqb).trans hc
        have hf := (S.yb 0 rfl).free k (by rw [List.length_append, List.length_map, List.length_take, List.length_drop, HLN.out]; omega)
        have hgc := (S.yb 0 rfl).cell k (by rw [List.length_append, List.length_map, List.length_take, List.length_drop, HLN.out]; omega)
        clear hc HI
        go_wp2
        have S2 := S.setY k y
        rw [HST.out, ← HU.out] at S2
        go_roundw
        case rel => exact ⟨k + 1, by omega, by go_num, Lib.hid (.inr ⟨g, c, rfl, S2⟩)⟩
        case measure => simp [intOf]; omega

end Go.Proofs.YtcifdkliiljmkaaGreatDoor
