/-
  slices.Reverse at bytes; append of a byte.
-/
import Derived.Test.YtmbecaiieibcjaaBytes
import Derived.Test.YtmbecaiieibcjaaStarK
import Derived.Shelf.RegionOpenPlain
namespace Go.Proofs.Ytmbecaiieibcjaa
open Go.RowKit

theorem app1_ByteS {w : World} {ops : Array Oper} {rest : List Oper} {o : Oper} {a : Act} {Q : Exit → Act → World → Prop} (hgd : o.guard = none) (s x : Operand)
    (ho : o.op = .call { callee := .builtin .append, args := #[s, x], argTypes := #[87, 87] }) {v : Value} {l : List _} {fp : List Nat} (hv : a.eval s = v) (hown : (sliceE byteE 5).ow w [v] l fp) (hn : fp.Nodup)
    {g c : Nat} (hx : a.eval x = .slice (some ⟨g, 0, none⟩) 1 c) {y : _} {cs : List Value} {fy : List Nat} (hc : ∀ j u, cs[j]? = some u → w.cell? ⟨g, j, none⟩ = some u) (h1 : ∀ u, u ∈ cs → u.oneCell' = true) (hy : (byteE).ow w cs y fy)
    (hny : fy.Nodup) (hd : ∀ b, b ∈ fy → b ∉ fp) (hlen : l.length ≤ 1000000000000)
    (h : ∀ v' w' fp', (sliceE byteE 5).ow w' [v'] (l ++ [y]) fp' → fp'.Nodup → (∀ b, b ∈ fp' → b ∈ fp ∨ b ∈ fy ∨ w.heap.size ≤ b) → But fp w w' → wpList Try.prog ops Q rest (a.put o.dst v') w') : wpList Try.prog ops Q (o :: rest) a w := by
  obtain ⟨i0, hi, hz0, hz1, hz2⟩ := info_parts inf_ByteS
  exact wpList_append_one (E := byteE) (ty := 5) hgd s x _ ho i0 _ _ Try.underlying87 hi hz0 hz1 hz2 rfl (by decide) (by decide) hv hown hn hx hc h1 hy hny hd hlen h

theorem st1_ByteS {w0 w : World} {ps : List Ob} {ops : Array Oper} {rest : List Oper} {o : Oper} {a : Act} {Q : Exit → Act → World → Prop} {s x : Operand} {v : Value} {l : List Int} {b c : Nat} {y : Int} {cs : List Value}
    (S : Star w0 w (oE (sliceE byteE 5) [v] l :: oE byteE cs y :: ps)) (hgd : o.guard = none)
    (ho : o.op = .call { callee := .builtin .append, args := #[s, x], argTypes := #[87, 87] }) (hv : a.eval s = v)
    (hx : a.eval x = .slice (some ⟨b, 0, none⟩) 1 c) (hc : ∀ j u, cs[j]? = some u → w.cell? ⟨b, j, none⟩ = some u) (h1 : ∀ u, u ∈ cs → u.oneCell' = true) (hlen : l.length ≤ 1000000000000)
    (h : ∀ sa sn sc w', Star w0 w' (oE (sliceE byteE 5) [.slice sa sn sc] (l ++ [y]) :: ps) → wpList Try.prog ops Q rest (a.put o.dst (.slice sa sn sc)) w') : wpList Try.prog ops Q (o :: rest) a w := by
  obtain ⟨B, fp, hh, d⟩ := S
  obtain ⟨p1, p2, p3⟩ := hh 0 _ rfl
  obtain ⟨q1, q2, q3⟩ := hh 1 _ rfl
  have d01 := d 1 0 (by omega) (by simp) (by simp)
  refine app1_ByteS hgd s x ho hv p1 p2 hx hc h1 q1 q2 d01 hlen (fun v' w' fp' k1 k2 k3 k4 => ?_)
  obtain ⟨sa, sn, sc, rfl⟩ := ow_slice k1
  refine h sa sn sc w' ⟨B.trans (k4.below (fun b hb => (p3 b hb).1) B.size), fun i => match i with | 0 => fp' | i + 1 => fp (i + 2), fun i Q hQ => ?_, fun i j hij hi hj => ?_⟩
  · cases i with
    | zero =>
      obtain rfl : _ = Q := by simpa using hQ
      refine ⟨k1, k2, fun b hm => ⟨?_, Enc.ow_lt _ k1 b hm⟩⟩
      rcases k3 b hm with h1 | h1 | h1
      · exact (p3 b h1).1
      · exact (q3 b h1).1
      · have := B.size; omega
    | succ i =>
      have hQ' : ps[i]? = some Q := by simpa using hQ
      obtain ⟨h1, h2, h3⟩ := hh (i + 2) Q hQ'
      have hil := (List.getElem?_eq_some_iff.1 hQ').1
      refine ⟨Q.frame (fun b hm => k4.block b (h3 b hm).2 (fun hf => ?_)) h1, h2, fun b hm => ⟨(h3 b hm).1, Nat.lt_of_lt_of_le (h3 b hm).2 k4.size⟩⟩
      exact d 0 (i + 2) (by omega) (by simp) (by simpa using hil) b hf hm
  · have hd0 : ∀ i, i < ps.length → Dj fp' (fp (i + 2)) := by
      intro i hi b hb1 hb2
      rcases k3 b hb1 with h1 | h1 | h1
      · exact d 0 (i + 2) (by omega) (by simp) (by simpa using hi) b h1 hb2
      · exact d 1 (i + 2) (by omega) (by simp) (by simpa using hi) b h1 hb2
      · have := ((hh (i + 2) _ (by rw [List.getElem?_cons_succ, List.getElem?_cons_succ]; exact List.getElem?_eq_getElem hi)).2.2 b hb2).2
        omega
    cases i with
    | zero =>
      cases j with
      | zero => exact absurd rfl hij
      | succ j => exact hd0 j (by simpa using hj)
    | succ i =>
      cases j with
      | zero => exact (hd0 i (by simpa using hi)).symm
      | succ j => exact d (i + 2) (j + 2) (by omega) (by simpa using hi) (by simpa using hj)

theorem flat_byte : ∀ w cs x f, byteE.ow w cs x f → f = [] := fun _ _ _ _ h => h.2

theorem rev_get (l : List Int) (k : Nat) (hk : k < l.length) : l.reverse[k]? = l[l.length - 1 - k]? := List.getElem?_reverse hk

set_option maxHeartbeats 1000000 in
theorem reverse_any (g n c : Nat) (l : List Int) (f : List Nat) (w : World) (hn : l.length = n) (hb : n ≤ 1000000) (o : bytesE.ow w [.slice (some ⟨g, 0, none⟩) n c] l f) :
    Calls Try.prog 66 #[.slice (some ⟨g, 0, none⟩) n c] w (fun e w' => e = .returned (.tuple #[]) ∧ bytesE.ow w' [.slice (some ⟨g, 0, none⟩) n c] l.reverse f ∧ But f w w') := by
  have hf : f = [g] := (ow_set1 (E := byteE) rfl flat_byte o 0 (u := .int .u8 0) (y := 0) (fun _ => ⟨⟨rfl, by decide⟩, rfl⟩)).2
  have O := Lib.hid o
  have HN := Lib.hid hn; have HF := Lib.hid hf
  clear o hn hf
  go_enter Try.func66, Try.ntmps66
  go_wp2
  go_loopw [2, 3] (fun q2 q3 wr => ∃ (i : Nat) (jz : Int) (M : List Int), q2 = .int .i64 i ∧ q3 = .int .i64 jz ∧ jz = (n : Int) - 1 - i ∧ i ≤ n ∧ Hid (M.length = n) ∧ Hid (∀ k, k < n → M[k]? = if k < i ∨ n - 1 < k + i then l[n - 1 - k]? else l[k]?) ∧ Hid (bytesE.ow wr [.slice (some ⟨g, 0, none⟩) n c] M f) ∧ Hid (But f w wr)) (fun q2 _ _ => n - (intOf q2).toNat)
  case atStart => exact ⟨0, _, l, rfl, rfl, by omega, by omega, HN, Lib.hid (fun k hk => by rw [if_neg (by omega)]), O, Lib.hid (But.refl _ _)⟩
  case round =>
    obtain ⟨i, jz, M, rfl, rfl, hj, hi, HM, HG, O, HB⟩ := hrel
    by_cases hlt : (i : Int) < jz
    case neg =>
      have hlt' := hlt
      have hMr : M = l.reverse := by
        apply List.ext_getElem?
        intro k
        by_cases hk : k < n
        · rw [HG.out k hk, rev_get l k (by rw [HN.out]; exact hk), HN.out]
          split
          · rfl
          · rename_i h
            rw [show n - 1 - k = k from by omega]
        · rw [List.getElem?_eq_none_iff.2 (by rw [HM.out]; omega), List.getElem?_eq_none_iff.2 (by rw [List.length_reverse, HN.out]; omega)]
      have O2 := Lib.hid (show bytesE.ow wr [.slice (some ⟨g, 0, none⟩) n c] l.reverse f from by rw [← hMr]; exact O.out)
      clear hMr hlt' hj
      go_wp2
      go_end0
      exact ⟨rfl, O2.out, HB.out⟩
    obtain ⟨j, hjn⟩ : ∃ j : Nat, jz = j := ⟨jz.toNat, by omega⟩
    subst hjn
    have hij : i < j := by omega
    have hjl : j < n := by omega
    have hji : j = n - 1 - i := by omega
    obtain ⟨g', c', hv, -, -, fr, k4⟩ := ow_slice0 O.out (by rw [HM.out]; omega)
    simp only [Value.slice.injEq, Option.some.injEq, Addr.mk.injEq, and_true] at hv
    obtain ⟨rfl, -, rfl⟩ := hv
    have hiM : i < M.length := by rw [HM.out]; omega
    have hjM : j < M.length := by rw [HM.out]; omega
    have e1 := HG.out i (by omega)
    have e2 := HG.out j hjl
    rw [if_neg (by omega)] at e1 e2
    obtain ⟨xs, ⟨rfl, ha1, ha2⟩, -, x2⟩ := k4 i _ (List.getElem?_eq_getElem hiM)
    obtain ⟨ys, ⟨rfl, hb1, hb2⟩, -, y2⟩ := k4 j _ (List.getElem?_eq_getElem hjM)
    rw [List.getElem?_eq_getElem hiM] at e1
    rw [List.getElem?_eq_getElem hjM] at e2
    obtain ⟨a, ha⟩ : ∃ a, a = M[i] := ⟨_, rfl⟩
    obtain ⟨b, hb⟩ : ∃ b, b = M[j] := ⟨_, rfl⟩
    rw [← ha] at e1 ha1 ha2 x2
    rw [← hb] at e2 hb1 hb2 y2
    have ci : wr.cell? ⟨g, i, none⟩ = some (.int .u8 a) := by have := x2 0 _ rfl; simpa [byteE] using this
    have cj : wr.cell? ⟨g, j, none⟩ = some (.int .u8 b) := by have := y2 0 _ rfl; simpa [byteE] using this
    have hnew : ∀ k, k < n → ((M.set i b).set j a)[k]? = if k < i + 1 ∨ n - 1 < k + (i + 1) then l[n - 1 - k]? else l[k]? := by
      intro k hk
      by_cases h1 : k = j
      · subst h1
        rw [List.getElem?_set_self (by rw [List.length_set]; exact hjM), if_pos (by omega), show n - 1 - k = i from by omega]
        exact e1
      · rw [List.getElem?_set_ne (fun h => h1 h.symm)]
        by_cases h2 : k = i
        · subst h2
          rw [List.getElem?_set_self hiM, if_pos (by omega), show n - 1 - k = j from by omega]
          exact e2
        · rw [List.getElem?_set_ne (fun h => h2 h.symm), HG.out k hk]
          by_cases h3 : k < i ∨ n - 1 < k + i
          · rw [if_pos h3, if_pos (by omega)]
          · rw [if_neg h3, if_neg (by omega)]
    have HNEW := Lib.hid hnew; have HJ := Lib.hid hji
    have hbw := HB.out
    have i1 : (0 : Int) ≤ (i : Int) := by omega
    have i2 : (i : Int) < (n : Int) := by omega
    have i3 : (0 : Int) ≤ (j : Int) := by omega
    have i4 : (j : Int) < (n : Int) := by omega
    have hgl : g < wr.heap.size := World.block_lt_of_cell? wr _ ci
    have w1 : IntKind.i64.wrap ((j : Int) - 1) = (j : Int) - 1 := IntWalk.i64_in _ ⟨by omega, by omega⟩
    clear x2 y2 k4 e1 e2 hnew ha hb hbw hlt hj hji
    have hlt2 : (i : Int) < (j : Int) := by omega
    have o2 := (ow_set1 (E := byteE) rfl flat_byte (ow_set1 (E := byteE) rfl flat_byte O.out i (u := .int .u8 b) (y := b) (fun _ => ⟨⟨rfl, hb1, hb2⟩, rfl⟩)).1 j (u := .int .u8 a) (y := a) (fun _ => ⟨⟨rfl, ha1, ha2⟩, rfl⟩)).1
    have b2 : But f w ((wr.setCell ⟨g, i, none⟩ (.int .u8 b)).setCell ⟨g, j, none⟩ (.int .u8 a)) := by
      have hB := HB.out
      rw [HF.out] at hB ⊢
      exact (hB.setCell (by simp) _).setCell (by simp) _
    have o3 := Lib.hid (show bytesE.ow ((wr.setCell ⟨g, i, none⟩ (.int .u8 b)).setCell ⟨g, j, none⟩ (.int .u8 a)).drew [.slice (some ⟨g, 0, none⟩) n c] ((M.set i b).set j a) f from bytesE.ow_frame (by intro _ _; rfl) o2)
    have b3 := Lib.hid (show But f w ((wr.setCell ⟨g, i, none⟩ (.int .u8 b)).setCell ⟨g, j, none⟩ (.int .u8 a)).drew from ⟨b2.os, b2.tape, b2.output, b2.size, b2.block⟩)
    clear o2 b2
    have mixed : Try.prog.follows Departure.mixedOrders = true := by kernel_rfl
    go_wp2_with fail
    go_region_o
    go_wp2
    go_roundw
    case rel => exact ⟨i + 1, (j : Int) - 1, (M.set i b).set j a, by go_num, rfl, by have := HJ.out; omega, by omega, Lib.hid (by rw [List.length_set, List.length_set]; exact HM.out), HNEW, o3, b3⟩
    case measure => simp [intOf]; omega

end Go.Proofs.Ytmbecaiieibcjaa
