/-
  Numbers, words and moves read by the program; the head of a text.
-/
import Derived.Lib.SmallJoins
import Derived.PlainAid
import Derived.Deep.DeepCutAuto
import Derived.Test.YtodoghidckelcaaGreatDoorRwDefK
import Derived.Test.YtodoghidckelcaaGreatDoorStarKK
import Derived.Test.YtodoghidckelcaaGreatDoorCalmK
import Derived.Test.YtodoghidckelcaaGreatDoorShelfNumRK
import Derived.Test.YtodoghidckelcaaGreatDoorShelfSplitK
import Derived.Test.YtodoghidckelcaaGreatDoorShelfCutRK
namespace Go.Proofs.YtodoghidckelcaaGreatDoor
open Go.RowKit Go.PlainAid

theorem Star.mergeR {w0 w1 w2 : World} {ps qs : List Ob} (S : Star w0 w1 ps) (T : Star w1 w2 qs) : Star w0 w2 (qs ++ ps) := by
  obtain ⟨B, fp, h, d⟩ := S
  obtain ⟨B', fq, h', d'⟩ := T
  refine ⟨B.trans (B'.mono B.size), fun i => if i < qs.length then fq i else fp (i - qs.length), fun i P hP => ?_, fun i j hij hi hj => ?_⟩
  · by_cases hi : i < qs.length
    · rw [List.getElem?_append_left hi] at hP
      obtain ⟨k1, k2, k3⟩ := h' i P hP
      simp only [if_pos hi]
      exact ⟨k1, k2, fun b hb => ⟨Nat.le_trans B.size (k3 b hb).1, (k3 b hb).2⟩⟩
    · rw [List.getElem?_append_right (by omega)] at hP
      obtain ⟨k1, k2, k3⟩ := h _ P hP
      simp only [if_neg hi]
      exact ⟨P.frame (fun b hb => B'.block b (k3 b hb).2) k1, k2, fun b hb => ⟨(k3 b hb).1, Nat.lt_of_lt_of_le (k3 b hb).2 B'.size⟩⟩
  · rw [List.length_append] at hi hj
    have key : ∀ a b, a < qs.length → b < ps.length → Dj (fq a) (fp b) := fun a b ha hb x hx hy => by
      have h1 := ((h' a _ (List.getElem?_eq_getElem ha)).2.2 x hx).1
      have h2 := ((h b _ (List.getElem?_eq_getElem hb)).2.2 x hy).2
      omega
    by_cases h1 : i < qs.length <;> by_cases h2 : j < qs.length
    · simp only [if_pos h1, if_pos h2]; exact d' i j hij h1 h2
    · simp only [if_pos h1, if_neg h2]; exact key _ _ h1 (by omega)
    · simp only [if_neg h1, if_pos h2]; exact (key _ _ h2 (by omega)).symm
    · simp only [if_neg h1, if_neg h2]; exact d _ _ (by omega) (by omega) (by omega)

/-- A variable of an interface's type holds a value of one, whatever is done from block B on. -/
def ErrIs (g B : Nat) (w : World) : Prop := ∃ ev : Value, (ev = .nilIface ∨ ∃ te pe, ev = .iface te pe) ∧ ∀ w', Below B w w' → w'.cell? ⟨g, 0, none⟩ = some ev

theorem ErrIs.step {g B : Nat} {w w1 : World} (h : ErrIs g B w) (hb : Below B w w1) : ErrIs g B w1 := by
  obtain ⟨ev, h1, h2⟩ := h
  exact ⟨ev, h1, fun w' b => h2 w' (hb.trans b)⟩

theorem ErrIs.up {g B B' : Nat} {w : World} (h : ErrIs g B w) (hb : B ≤ B') : ErrIs g B' w := by
  obtain ⟨ev, h1, h2⟩ := h
  exact ⟨ev, h1, fun w' b => h2 w' (b.mono hb)⟩

theorem number_any (s : ByteArray) (w : World) (hs : s.size ≤ 281474976710656) (h15 : ErrIs (Tryz.lays174_ren.g 15) w.heap.size w) (h16 : ErrIs (Tryz.lays174_ren.g 16) w.heap.size w) : Calls Tryz.prog 30 #[.string s] w (Gives (.int .i64 (numI s.data.toList)) w) := by
  cases h : Lib.parseIntB 64 s.data.toList with
  | ok v =>
    have hr : numI s.data.toList = v := by unfold numI; rw [h]
    have c := Lib.hid (Any.strconv_ParseInt_10_at64_ok Tryz.lays174 s (by omega) v h w)
    have HR := Lib.hid hr
    clear h hr h15 h16
    go_enter Tryz.func30, Tryz.ntmps30
    go_wp2_with fail
    refine c.out.mono ?_
    rintro e w1 ⟨rfl, hw⟩
    have b : Below w.heap.size w w1 := by
      rcases hw with rfl | ⟨t, rfl⟩
      · exact Below.refl _ _
      · exact Go.Joins.below_bytesWorld _ _ _ _ (Nat.le_refl _)
    clear hw
    go_wp2
    go_ret
    exact ⟨by rw [HR.out]; rfl, b⟩
  | «syntax» =>
    have hr : numI s.data.toList = 0 := by unfold numI; rw [h]
    obtain ⟨ev, e1, e2⟩ := h15
    have c := Lib.hid (Any.strconv_ParseInt_10_at64_syntax Tryz.lays174 s hs h ev w (e2 w (Below.refl _ _)) e1)
    have HR := Lib.hid hr
    clear h hr h16 e1 e2
    go_enter Tryz.func30, Tryz.ntmps30
    go_wp2_with fail
    refine c.out.mono ?_
    rintro e w1 ⟨q, rfl, -, -, b⟩
    go_wp2
    go_ret
    exact ⟨by rw [HR.out]; rfl, b⟩
  | range =>
    have hr : numI s.data.toList = 0 := by unfold numI; rw [h]
    obtain ⟨ev, e1, e2⟩ := h16
    have c := Lib.hid (Any.strconv_ParseInt_10_at64_range Tryz.lays174 s hs h ev w (e2 w (Below.refl _ _)) e1)
    have HR := Lib.hid hr
    clear h hr h15 e1 e2
    go_enter Tryz.func30, Tryz.ntmps30
    go_wp2_with fail
    refine c.out.mono ?_
    rintro e w1 ⟨q, rfl, -, -, b⟩
    go_wp2
    go_ret
    exact ⟨by rw [HR.out]; rfl, b⟩

/-- The variable that the library's search looks at, whatever is done from block B on. -/
def MaxIsT (m : Int) (B : Nat) (w : World) : Prop := ∀ w', Below B w w' → w'.cell? ⟨Tryz.lays146_ren.g 1, 0, none⟩ = some (.int .i64 m)

theorem MaxIsT.step {m : Int} {B : Nat} {w w1 : World} (h : MaxIsT m B w) (hb : Below B w w1) : MaxIsT m B w1 := fun w' b => h w' (hb.trans b)
theorem MaxIsT.up {m : Int} {B B' : Nat} {w : World} (h : MaxIsT m B w) (hb : B ≤ B') : MaxIsT m B' w := fun w' b => h w' (b.mono hb)
theorem MaxIsT.at {m : Int} {w w' : World} (h : MaxIsT m w.heap.size w) (hb : Below w.heap.size w w') : MaxIsT m w'.heap.size w' := (h.step hb).up hb.size
theorem ErrIs.at {g : Nat} {w w' : World} (h : ErrIs g w.heap.size w) (hb : Below w.heap.size w w') : ErrIs g w'.heap.size w' := (h.step hb).up hb.size

def strsV (l : List (List UInt8)) : List Value := l.map fun x => Value.string (mkB x)

theorem split_any (c : UInt8) (l : List UInt8) (m : Int) (n : Nat) (w : World) (hn : (splitL c l).length = n) (hl : l.length ≤ 30000) (hm : MaxIsT m w.heap.size w) :
    Calls Tryz.prog 14 #[.string (mkB l), .string ⟨#[c]⟩] w (fun e w' => ∃ g, e = .returned (.slice (some ⟨g, 0, none⟩) n n) ∧ Star w w' [oB g (strsV (splitL c l)) 9]) := by
  refine (Any.strings_Split Tryz.lays146 (by kernel_rfl) (mkB l) ⟨#[c]⟩ m w (by rw [mkB_size]; omega) (hm w (Below.refl _ _)) (by show 1 ≤ _; exact Nat.le_refl _)).mono ?_
  rintro e w1 ⟨rfl, hw⟩
  have hs : Lib.splitB ⟨#[c]⟩ 0 (Lib.countB (mkB l) ⟨#[c]⟩) (mkB l) = (splitL c l).map mkB := splitC_is c l
  rw [hs, List.map_map] at hw
  refine ⟨w.heap.size, by rw [splitC_count, hn], ?_⟩
  have S := (Star.nil w).alloc (cs := (strsV (splitL c l)).toArray) (ty := 9)
  have e : w1 = w.alloc (.cells (strsV (splitL c l)).toArray 9) := hw
  rw [e]
  exact S

theorem strsV_ow {x : ByteArray} (h : x.size ≤ maxLen) (w : World) : strE.ow w [Value.string x] x [] := ⟨⟨rfl, h⟩, rfl⟩

theorem strsV_flat (l : List (List UInt8)) : strsV l = (l.map mkB).flatMap fun x => [Value.string x] := by
  unfold strsV
  rw [List.flatMap_map]
  induction l with
  | nil => rfl
  | cons x l ih => rw [List.map_cons, ih]; rfl

theorem strsV_get (l : List (List UInt8)) (k : Nat) (h : k < l.length) : (strsV l)[k]? = some (.string (mkB (l.getD k []))) := by
  unfold strsV
  rw [List.getElem?_map, List.getD_eq_getElem?_getD, List.getElem?_eq_getElem h]
  rfl

def lenV : Value → Nat
  | .slice _ n _ => n
  | _ => 0

theorem pad_map (W : List (List UInt8)) (j : Nat) (h1 : 4 ≤ W.length + j) (h2 : j = 0 ∨ W.length + j ≤ 4) : W.map mkB ++ List.replicate j (mkB []) = (padT 4 W).map mkB := by
  unfold padT
  rw [List.map_append, List.map_replicate]
  congr 2
  omega

set_option maxHeartbeats 4000000 in
set_option maxRecDepth 100000 in
theorem headOf_any (s : List UInt8) (m : Int) (n : Nat) (w : World) (hs : s.length ≤ 30000) (hn : (linesT s).length = n + 1) (hM : MaxIsT m w.heap.size w) :
    Calls Tryz.prog 29 #[.string (mkB s), .int .i64 4] w (fun e w' => ∃ v g o, e = .returned (.tuple #[v, .slice (some ⟨g, o, none⟩) n n]) ∧ Hid (n = 0 ∨ o = 1) ∧ Star w w' [oE strsE [v] ((headT 4 s).map mkB), oB g (strsV (linesT s)) 9]) := by
  have HTR := Lib.hid (fun w' => Any.strings_TrimSuffix Tryz.lays102 (mkB s) ⟨#[10]⟩ w' (by rw [mkB_size]; omega))
  rw [show (⟨(Lib.trimSuffix (mkB s).data.toList (⟨#[10]⟩ : ByteArray).data.toList).toArray⟩ : ByteArray) = mkB (Lib.trimSuffix s [10]) from rfl] at HTR
  have ht := Lib.trimSuffix_le s [10]
  obtain ⟨L, hL⟩ : ∃ L, L = linesT s := ⟨_, rfl⟩
  have HS1 := Lib.hid (fun w' (bl : Below w.heap.size w w') => split_any 10 (Lib.trimSuffix s [10]) m (n + 1) w' hn (by omega) (hM.at bl))
  rw [show splitL 10 (Lib.trimSuffix s [10]) = linesT s from rfl, ← hL] at HS1
  rw [← hL] at hn ⊢
  have hd : L.headD [] = L.getD 0 [] := by cases L <;> rfl
  have hx : (L.getD 0 []).length ≤ 30000 := by
    have h0 : 0 < L.length := by omega
    have hm : L.getD 0 [] ∈ splitL 10 (Lib.trimSuffix s [10]) := by
      rw [show splitL 10 (Lib.trimSuffix s [10]) = L from hL.symm, List.getD_eq_getElem?_getD, List.getElem?_eq_getElem h0]
      exact List.getElem_mem h0
    have := splitL_le 10 _ _ hm
    omega
  have hH : headT 4 s = padT 4 (splitL 32 (L.getD 0 [])) := by unfold headT; rw [← hL, hd]
  obtain ⟨X, hX⟩ : ∃ X, X = L.getD 0 [] := ⟨_, rfl⟩
  rw [← hX] at hx hH
  obtain ⟨k, hk⟩ : ∃ k, k = (splitL 32 X).length := ⟨_, rfl⟩
  have hk0 := splitL_len 32 X
  have HS2 := Lib.hid (fun w' (bl : Below w.heap.size w w') => split_any 32 X m k w' hk.symm hx (hM.at bl))
  obtain ⟨W, hW⟩ : ∃ W, W = splitL 32 X := ⟨_, rfl⟩
  have hWs : ∀ x, x ∈ W.map mkB → x.size ≤ maxLen := by
    intro x hx2
    obtain ⟨y, hy, rfl⟩ := List.mem_map.1 hx2
    rw [hW] at hy
    have := splitL_le 32 X y hy
    rw [mkB_size]; simp only [maxLen]; omega
  rw [← hW] at hk hH HS2
  rw [hH]
  have hc0 : (strsV L)[0]? = some (.string (mkB X)) := by rw [hX]; exact strsV_get L 0 (by omega)
  have HC0 := Lib.hid hc0; have HWS := Lib.hid hWs; have HK := Lib.hid hk
  have hk3 : k ≤ 30001 := by rw [hk, hW]; omega
  have hn3 : n ≤ 30001 := by
    have := splitL_len 10 (Lib.trimSuffix s [10])
    rw [show splitL 10 (Lib.trimSuffix s [10]) = L from hL.symm] at this
    omega
  obtain ⟨T, hT⟩ : ∃ T, T = mkB s := ⟨_, rfl⟩
  obtain ⟨Y, hY⟩ : ∃ Y, Y = mkB (Lib.trimSuffix s [10]) := ⟨_, rfl⟩
  obtain ⟨X2, hX2⟩ : ∃ Y, Y = mkB X := ⟨_, rfl⟩
  rw [← hT] at HTR ⊢
  rw [← hY] at HTR HS1
  rw [← hX2] at HS2 HC0
  clear hn ht hL hd hH hX hk hk0 hW hWs hc0 hT hY hx hs hM hX2
  have n1 : ¬ ((n : Int) + 1 = 0) := by omega
  go_enter Tryz.func29, Tryz.ntmps29
  go_wp2_with fail
  refine (HTR.out w).mono ?_
  rintro e w1 ⟨rfl, hw⟩
  replace hw := hw.symm
  subst hw
  go_wp2_with fail
  refine (HS1.out _ (Below.refl _ _)).mono ?_
  rintro e w2 ⟨g, rfl, S⟩
  clear HTR HS1
  have x0 := (S.blk 0 rfl).cell 0 HC0.out
  go_wp2_with fail
  refine (HS2.out _ S.below).mono ?_
  rintro e w3 ⟨h, rfl, S2⟩
  clear x0 HS2 HC0
  have S3 := ((S.mergeR S2).lits (E := strE) (W.map mkB) (fun x => [Value.string x]) k (by rw [List.length_map, HK.out]) (strsV_flat W) (fun x hx => strsV_ow (HWS.out x hx) _) (by simp only [maxLen]; omega))
  clear S S2 HWS
  go_wp2
  go_loopw [7] (fun vh wr => ∃ (j : Nat) (v : Value), vh = v ∧ j ≤ 4 ∧ Hid (j = 0 ∨ W.length + j ≤ 4) ∧ Star w wr [oE strsE [v] (W.map mkB ++ List.replicate j (mkB [])), oB g (strsV L) 9]) (fun vh _ => 4 - lenV vh)
  case atStart => exact ⟨0, _, rfl, by omega, Lib.hid (.inl rfl), by rw [List.replicate_zero, List.append_nil]; exact S3⟩
  case round =>
    clear S3
    obtain ⟨j, v, rfl, hj4, HJ, S⟩ := hrel
    obtain ⟨va, vc, hv⟩ := S.slcN 0 rfl
    rw [List.length_append, List.length_map, List.length_replicate, ← HK.out] at hv
    obtain ⟨q, hq⟩ : ∃ q, q = k + j := ⟨_, rfl⟩
    rw [← hq] at hv
    subst hv
    have HQ := Lib.hid hq
    have hqb : q ≤ 40000 := by omega
    clear hq
    by_cases hlt : q < 4
    case neg =>
      have he := pad_map W j (by rw [← HK.out]; have := HQ.out; omega) HJ.out
      rw [he] at S
      clear he HJ HQ HK
      have i1 : (1 : Int) ≤ (n : Int) + 1 := by omega
      go_wp2
      by_cases hn0 : n = 0
      · subst hn0
        refine wp_region_over (by kernel_rfl) (by kernel_rfl) ?_
        go_big_quiet_step (fail)
        go_big_quiet_step (fail)
        go_big_quiet_step (fail)
        go_big_quiet_step (fail)
        go_big_quiet_step (fail)
        refine wpQuiet_nil ?_
        intro w8 b8
        replace S := S.step b8
        clear b8
        go_wp2
        go_ret2
        exact ⟨_, _, ⟨_, rfl⟩, Lib.hid trivial, S⟩
      · have hn1 : ¬ (n : Int) = 0 := by omega
        refine wp_region_over (by kernel_rfl) (by kernel_rfl) ?_
        go_big_quiet_step (fail)
        go_big_quiet_step (fail)
        go_big_quiet_step (fail)
        go_big_quiet_step (fail)
        go_big_quiet_step (fail)
        refine wpQuiet_nil ?_
        intro w8 b8
        replace S := S.step b8
        clear b8
        go_wp2
        go_ret2
        exact ⟨_, _, _, rfl, Lib.hid (.inr rfl), S⟩
    have hll : (W.map mkB ++ List.replicate j (mkB [])).length ≤ 1000000000000 := by rw [List.length_append, List.length_map, List.length_replicate, ← HK.out]; omega
    have SA := ((S.alloc (cs := #[.string ⟨#[]⟩]) (ty := 9)).str (x := mkB []) (by decide)).sel [2, 0, 3]
    have hst : (W.map mkB ++ List.replicate j (mkB [])) ++ [mkB []] = W.map mkB ++ List.replicate (j + 1) (mkB []) := by rw [List.append_assoc, ← List.replicate_succ']
    have HST := Lib.hid hst
    have hjj : j + 1 = 0 ∨ W.length + (j + 1) ≤ 4 := by rw [← HK.out]; have := HQ.out; omega
    have HJ2 := Lib.hid hjj
    clear hst hjj
    go_wp2_with (at_builtin; refine st1_StringS SA rfl rfl rfl rfl cell_a1 (one_mem rfl) hll ?_; intro ta tn tc w11 S11)
    obtain ⟨va2, vc2, hv2⟩ := S11.slcN 0 rfl
    have h1 : tn = q + 1 := by
      simp only [Value.slice.injEq] at hv2
      rw [hv2.2.1, List.length_append, List.length_append, List.length_map, List.length_replicate, ← HK.out, HQ.out]; rfl
    rw [HST.out] at S11
    go_roundw
    case rel => exact ⟨j + 1, _, rfl, by have := HQ.out; omega, HJ2, S11⟩
    case measure => simp [lenV]; omega

end Go.Proofs.YtodoghidckelcaaGreatDoor
