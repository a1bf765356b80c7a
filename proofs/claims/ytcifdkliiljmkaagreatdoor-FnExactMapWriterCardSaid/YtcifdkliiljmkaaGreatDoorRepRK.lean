/-
  The library's Replacer: the call that builds, Do, Replace.
-/
import Derived.Test.YtcifdkliiljmkaaGreatDoorRepBsK
import Derived.Test.YtcifdkliiljmkaaGreatDoorRepSK
import Derived.Test.YtcifdkliiljmkaaGreatDoorRepNK
import Derived.Test.YtcifdkliiljmkaaGreatDoorOnceSK
import Derived.Handy
namespace Go.Proofs.YtcifdkliiljmkaaGreatDoor
open Go.RowKit

theorem Star.mergeZ {w0 w1 w2 : World} {ps qs : List Ob} (S : Star w0 w1 ps) (T : Star w1 w2 qs) : Star w0 w2 (qs ++ ps) := by
  obtain ⟨B, fp, h, d⟩ := S
  obtain ⟨B', fq, h', d'⟩ := T
  refine ⟨B.trans (B'.mono B.size), fun i => if i < qs.length then fq i else fp (i - qs.length), fun i P hP => ?_, fun i j hij hi hj => ?_⟩
  · by_cases hi : i < qs.length
    · rw [List.getElem?_append_left hi] at hP
      obtain ⟨k1, k2, k3⟩ := h' i P hP
      simp only [if_pos hi]
      exact ⟨k1, k2, fun b hb => ⟨Nat.le_trans B.size (k3 b hb).1, (k3 b hb).2⟩⟩
    · rw [List.getElem?_append_right (by omega)] at hP
      obtain ⟨k1, k2, k3⟩ := h _ P hP
      simp only [if_neg hi]
      exact ⟨P.frame (fun b hb => B'.block b (k3 b hb).2) k1, k2, fun b hb => ⟨(k3 b hb).1, Nat.lt_of_lt_of_le (k3 b hb).2 B'.size⟩⟩
  · rw [List.length_append] at hi hj
    have key : ∀ a b, a < qs.length → b < ps.length → Dj (fq a) (fp b) := fun a b ha hb x hx hy => by
      have h1 := ((h' a _ (List.getElem?_eq_getElem ha)).2.2 x hx).1
      have h2 := ((h b _ (List.getElem?_eq_getElem hb)).2.2 x hy).2
      omega
    by_cases h1 : i < qs.length <;> by_cases h2 : j < qs.length
    · simp only [if_pos h1, if_pos h2]; exact d' i j hij h1 h2
    · simp only [if_pos h1, if_neg h2]; exact key _ _ h1 (by omega)
    · simp only [if_neg h1, if_pos h2]; exact (key _ _ h2 (by omega)).symm
    · simp only [if_neg h1, if_neg h2]; exact d _ _ (by omega) (by omega) (by omega)

theorem Star.reidZ {w0 w : World} {ps qs : List Ob} (S : Star w0 w ps) (σ : Nat → Nat) (h : ∀ i Q, qs[i]? = some Q → ps[σ i]? = some Q) (inj : ∀ i j, i < qs.length → j < qs.length → i ≠ j → σ i ≠ σ j) : Star w0 w qs := by
  obtain ⟨B, fp, hh, d⟩ := S
  have hl : ∀ i, i < qs.length → σ i < ps.length := fun i hi => (List.getElem?_eq_some_iff.1 (h i _ (List.getElem?_eq_getElem hi))).1
  exact ⟨B, fun i => fp (σ i), fun i Q hQ => hh _ Q (h i Q hQ), fun i j hij hi hj => d _ _ (inj i j hi hj hij) (hl i hi) (hl j hj)⟩

theorem size1 {a : ByteArray} (h : a.size = 1) : ∃ x, a = ⟨#[x]⟩ := by
  obtain ⟨⟨l⟩⟩ := a
  match l, h with
  | [x], _ => exact ⟨x, rfl⟩

theorem build_any (r : Nat) (v : Value) (a b c : ByteArray) (w : World) (hr : w.cell? ⟨r, 4, none⟩ = some v) (h : strsE.rd w w.heap.size [v] (repL a b c)) :
    Calls Tryz.prog 110 #[.pointer (some ⟨r, 0, none⟩)] w (fun e w' => ∃ iv, e = .returned iv ∧ Star w w' [oImpl iv a b c]) := by
  by_cases hs : a.size = 1 ∧ b.size = 1 ∧ c.size = 1
  · obtain ⟨x, rfl⟩ := size1 hs.1
    obtain ⟨y, rfl⟩ := size1 hs.2.1
    obtain ⟨z, rfl⟩ := size1 hs.2.2
    exact build_bytes r v x y z w hr h
  · exact build_strs r v a b c w hs hr h

theorem impl_iface {iv : Value} {a b c : ByteArray} {w : World} {f : List Nat} (h : (oImpl iv a b c).holds w f) : ∃ T q, iv = .iface T (.pointer (some ⟨q, 0, none⟩)) := by
  rcases h with ⟨q, cs, x, y, z, rfl, -⟩ | ⟨q, cs, q1, q2, q3, k1, k2, k3, t, tc, rfl, -⟩
  · exact ⟨_, _, rfl⟩
  · exact ⟨_, _, rfl⟩

set_option maxHeartbeats 4000000 in
theorem buildOnce_any (r : Nat) (v : Value) (a b c : ByteArray) (ps : List Ob) (w0 w : World) (S : Star w0 w (oB r [.int .u32 0, .int .i32 1, .int .u32 0, .nilIface, v] tRep :: oE strsE [v] (repL a b c) :: ps)) :
    Calls Tryz.prog 84 #[.pointer (some ⟨r, 0, none⟩)] w (fun e w' => e = .returned (.tuple #[]) ∧ ∃ iv, Star w0 w' (oB r [.int .u32 0, .int .i32 1, .int .u32 0, iv, .slice none 0 0] tRep :: oImpl iv a b c :: ps)) := by
  have HB := Lib.hid (build_any r v a b c w ((S.blk 0 rfl).cell 4 rfl) (S.rd 1 rfl))
  go_enter Tryz.func84, Tryz.ntmps84
  go_wp2_with fail
  refine HB.out.mono ?_
  rintro e w1 ⟨iv, rfl, SI⟩
  have S1 := S.mergeZ SI
  obtain ⟨f, hf⟩ := S1.implHolds 0 rfl
  obtain ⟨T, q, rfl⟩ := impl_iface hf
  have S2 : Star w0 w1 (oB r [.int .u32 0, .int .i32 1, .int .u32 0, .nilIface, v] tRep :: oImpl (.iface T (.pointer (some ⟨q, 0, none⟩))) a b c :: ps) := S1.reidZ (fun i => match i with | 0 => 1 | 1 => 0 | i + 2 => i + 3) (fun i Q hQ => by
    match i with
    | 0 => exact hQ
    | 1 => exact hQ
    | i + 2 => exact hQ) (fun i j hi hj hij => by
    match i, j with
    | 0, 0 => exact absurd rfl hij
    | 0, 1 => simp
    | 0, j + 2 => simp
    | 1, 0 => simp
    | 1, 1 => exact absurd rfl hij
    | 1, j + 2 => simp
    | i + 2, 0 => simp
    | i + 2, 1 => simp
    | i + 2, j + 2 => simp; omega)
  have x3 := (S2.blk 0 rfl).cell 3 rfl
  have x4 := (S2.blk 0 rfl).cell 4 rfl
  have xf := (S2.blk 0 rfl).free
  clear S S1 HB SI hf f
  go_wp2
  go_end0
  exact ⟨rfl, .iface T (.pointer (some ⟨q, 0, none⟩)), (S2.set 3 _).set 4 _⟩

set_option maxHeartbeats 1000000 in
theorem do_any (r : Nat) (a b c : ByteArray) (ps : List Ob) (w0 w : World) (S : Star w0 w (oRep r a b c :: ps)) :
    Calls Tryz.prog 83 #[.pointer (some ⟨r, 0, none⟩), .func (.func 84) #[.pointer (some ⟨r, 0, none⟩)] #[]] w (fun e w' => e = .returned (.tuple #[]) ∧ Star w0 w' (oBt r a b c :: ps)) := by
  rcases S.repCases with S | S
  · obtain ⟨v, S⟩ := S.frOpen
    have B := S.blk 0 rfl
    refine (onceFirst r (.pointer (some ⟨r, 0, none⟩)) (fun w' => ∃ iv, Star w0 w' (oB r [.int .u32 0, .int .i32 1, .int .u32 0, iv, .slice none 0 0] tRep :: oImpl iv a b c :: ps)) w (B.cell 0 rfl) (B.cell 1 rfl) (B.free 0) (B.free 1)
      (buildOnce_any r v a b c ps w0 _ (S.set 1 (.int .i32 1))) (fun w' h => ?_)).mono ?_
    · obtain ⟨iv, S'⟩ := h
      have B' := S'.blk 0 rfl
      exact ⟨B'.cell 0 rfl, B'.cell 1 rfl, B'.free 0, B'.free 1⟩
    · rintro e w' ⟨rfl, w2, ⟨iv, S2⟩, rfl⟩
      exact ⟨rfl, ((S2.drew.set 0 (.int .u32 1)).set 1 (.int .i32 0)).toBt⟩
  · obtain ⟨iv, S'⟩ := S.btOpen
    refine (onceDone r _ w ((S'.blk 0 rfl).cell 0 rfl)).mono ?_
    rintro e w' ⟨rfl, rfl⟩
    exact ⟨rfl, S⟩

theorem abc_cases {c : UInt8} (h : ([97, 98, 99] : List UInt8).contains c = true) : c = 97 ∨ c = 98 ∨ c = 99 := by simpa using h

theorem fm_map (f : UInt8 → List UInt8) (g : UInt8 → UInt8) : ∀ l : List UInt8, (∀ c, c ∈ l → f c = [g c]) → l.flatMap f = l.map g
  | [], _ => rfl
  | c :: l, h => by rw [List.flatMap_cons, List.map_cons, h c (by simp), fm_map f g l (fun x hx => h x (by simp [hx]))]; rfl

set_option maxHeartbeats 4000000 in
theorem repReplace_any (r : Nat) (a b c x : ByteArray) (ps : List Ob) (w0 w : World) (ha : outOk a = true) (hb : outOk b = true) (hc : outOk c = true) (hx : outOk x = true) (S : Star w0 w (oRep r a b c :: ps)) :
    Calls Tryz.prog 57 #[.pointer (some ⟨r, 0, none⟩), .string x] w (fun e w' => e = .returned (.string (mapText [a, b, c] x)) ∧ Star w0 w' (oRep r a b c :: ps)) := by
  have HD := Lib.hid (do_any r a b c ps w0 w S)
  unfold outOk at ha hb hc hx
  rw [Bool.and_eq_true, decide_eq_true_eq, List.all_eq_true] at ha hb hc hx
  obtain ⟨R, hR⟩ : ∃ R, R = mapText [a, b, c] x := ⟨_, rfl⟩
  rw [← hR]
  have HR := Lib.hid hR
  have HX := Lib.hid hx; have HA := Lib.hid ha.1; have HB := Lib.hid hb.1; have HC := Lib.hid hc.1
  clear hR S hx ha hb hc
  go_enter Tryz.func57, Tryz.ntmps57
  go_wp2_with fail
  refine HD.out.mono ?_
  rintro e w1 ⟨rfl, S⟩
  clear HD
  obtain ⟨iv, S2⟩ := S.btOpen
  have x3 := (S2.blk 0 rfl).cell 3 rfl
  obtain ⟨f, hf⟩ := S2.implHolds 1 rfl
  rcases hf with ⟨q, cs, u, y, z, rfl, h1, h2, h3, h4, h5, h6, h7, -⟩ | ⟨q, cs, q1, q2, q3, k1, k2, k3, t, tc, rfl, h1, h2, h3, h4, h5, h6, h7, h8, -⟩
  · have HK := Lib.hid (byteRep_any (fun c => if c = 97 then u else if c = 98 then y else z) q x w1 (by have := HX.out.1; omega) (fun c hc => by
      rcases abc_cases (HX.out.2 c hc) with rfl | rfl | rfl
      · exact h1.cell 97 h5
      · exact h1.cell 98 h6
      · exact h1.cell 99 h7))
    have e : (⟨(x.data.toList.map fun c => if c = 97 then u else if c = 98 then y else z).toArray⟩ : ByteArray) = R := by
      rw [HR.out]
      unfold mapText mapL
      rw [fm_map _ (fun c => if c = 97 then u else if c = 98 then y else z) x.data.toList (fun c hc => ?_)]
      rcases abc_cases (HX.out.2 c hc) with rfl | rfl | rfl
      · exact h2
      · exact h3
      · exact h4
    rw [e] at HK
    clear e h1 h2 h3 h4 h5 h6 h7 S2
    go_wp2_with fail
    refine HK.out.mono ?_
    rintro e w2 ⟨rfl, B2⟩
    go_wp2
    go_ret
    exact ⟨rfl, (S.step B2).btRep⟩
  · have HK := Lib.hid (bstRep_any (fun d => (([a, b, c] : List ByteArray).getD (d.toNat - 97) ByteArray.empty).data.toList) q t tc x w1 HX.out.1 (h1.cell 256 h5) (fun d hd => by
      rcases abc_cases (HX.out.2 d hd) with rfl | rfl | rfl
      · exact ⟨by show a.data.toList.length ≤ 3; rw [← Lib.size_eq]; exact HA.out, q1, k1, by show w1.cell? _ = some (.slice _ a.data.toList.length _); rw [← Lib.size_eq]; exact h1.cell 97 h2, h6⟩
      · exact ⟨by show b.data.toList.length ≤ 3; rw [← Lib.size_eq]; exact HB.out, q2, k2, by show w1.cell? _ = some (.slice _ b.data.toList.length _); rw [← Lib.size_eq]; exact h1.cell 98 h3, h7⟩
      · exact ⟨by show c.data.toList.length ≤ 3; rw [← Lib.size_eq]; exact HC.out, q3, k3, by show w1.cell? _ = some (.slice _ c.data.toList.length _); rw [← Lib.size_eq]; exact h1.cell 99 h4, h8⟩))
    rw [show (⟨(x.data.toList.flatMap fun d => (([a, b, c] : List ByteArray).getD (d.toNat - 97) ByteArray.empty).data.toList).toArray⟩ : ByteArray) = R from HR.out.symm] at HK
    clear h1 h2 h3 h4 h5 h6 h7 h8 S2
    go_wp2_with fail
    refine HK.out.mono ?_
    rintro e w2 ⟨rfl, B2⟩
    go_wp2
    go_ret
    exact ⟨rfl, (S.step B2).btRep⟩

end Go.Proofs.YtcifdkliiljmkaaGreatDoor
