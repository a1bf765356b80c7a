/-
  Numbers read and texts cut: the reference's and the program's (written by a program of this claim's own, gen_read.py).
-/
import Derived.PlainAid
import Derived.Lib.SmallJoins
import Derived.Test.YteddgooalncfgaaDoorReadPK
import Derived.Test.YteddgooalncfgaaDoorShelfReadK
namespace Go.Proofs.YteddgooalncfgaaDoor
open Go.RowKit Go.PlainAid

/-- A variable of an interface's type holds a value of one, whatever is done from block B on. -/
def ErrIs (g B : Nat) (w : World) : Prop := ∃ ev : Value, (ev = .nilIface ∨ ∃ te pe, ev = .iface te pe) ∧ ∀ w', Below B w w' → w'.cell? ⟨g, 0, none⟩ = some ev

theorem ErrIs.step {g B : Nat} {w w1 : World} (h : ErrIs g B w) (hb : Below B w w1) : ErrIs g B w1 := by
  obtain ⟨ev, h1, h2⟩ := h
  exact ⟨ev, h1, fun w' b => h2 w' (hb.trans b)⟩

theorem ErrIs.up {g B B' : Nat} {w : World} (h : ErrIs g B w) (hb : B ≤ B') : ErrIs g B' w := by
  obtain ⟨ev, h1, h2⟩ := h
  exact ⟨ev, h1, fun w' b => h2 w' (b.mono hb)⟩

theorem number_any (s : ByteArray) (w : World) (hs : s.size ≤ 281474976710656) (h15 : ErrIs (Tryd.lays174_ren.g 15) w.heap.size w) (h16 : ErrIs (Tryd.lays174_ren.g 16) w.heap.size w) : Calls Tryd.prog 23 #[.string s] w (Gives (.int .i64 (numOf s)) w) := by
  cases h : Lib.parseIntB 64 s.data.toList with
  | ok v =>
    have hr : numOf s = v := by unfold numOf; rw [h]
    have c := Lib.hid (Any.strconv_ParseInt_10_at64_ok Tryd.lays174 s (by omega) v h w)
    have HR := Lib.hid hr
    clear h hr h15 h16
    go_enter Tryd.func23, Tryd.ntmps23
    go_wp2_with fail
    refine c.out.mono ?_
    rintro e w1 ⟨rfl, hw⟩
    have b : Below w.heap.size w w1 := by
      rcases hw with rfl | ⟨t, rfl⟩
      · exact Below.refl _ _
      · exact Go.Joins.below_bytesWorld _ _ _ _ (Nat.le_refl _)
    clear hw
    go_wp2
    go_ret
    exact ⟨by rw [HR.out]; rfl, b⟩
  | «syntax» =>
    have hr : numOf s = 0 := by unfold numOf; rw [h]
    obtain ⟨ev, e1, e2⟩ := h15
    have c := Lib.hid (Any.strconv_ParseInt_10_at64_syntax Tryd.lays174 s hs h ev w (e2 w (Below.refl _ _)) e1)
    have HR := Lib.hid hr
    clear h hr h16 e1 e2
    go_enter Tryd.func23, Tryd.ntmps23
    go_wp2_with fail
    refine c.out.mono ?_
    rintro e w1 ⟨q, rfl, -, -, b⟩
    go_wp2
    go_ret
    exact ⟨by rw [HR.out]; rfl, b⟩
  | range =>
    have hr : numOf s = 0 := by unfold numOf; rw [h]
    obtain ⟨ev, e1, e2⟩ := h16
    have c := Lib.hid (Any.strconv_ParseInt_10_at64_range Tryd.lays174 s hs h ev w (e2 w (Below.refl _ _)) e1)
    have HR := Lib.hid hr
    clear h hr h15 e1 e2
    go_enter Tryd.func23, Tryd.ntmps23
    go_wp2_with fail
    refine c.out.mono ?_
    rintro e w1 ⟨q, rfl, -, -, b⟩
    go_wp2
    go_ret
    exact ⟨by rw [HR.out]; rfl, b⟩

theorem drop_bt (t : ByteArray) (k : Nat) (h : k < t.size) : ∃ c : UInt8, (c.toNat : Int) = bt t k ∧ t.data.toList.drop k = c :: t.data.toList.drop (k + 1) := by
  have hl : t.data.toList.length = t.size := Array.length_toList
  refine ⟨t.data.toList[k]'(by omega), ?_, List.drop_eq_getElem_cons (by omega)⟩
  unfold bt
  rw [dif_pos h]
  rfl

theorem numL_step (acc : Int) (t : ByteArray) (k : Nat) (h : k < t.size) : numL acc (t.data.toList.drop k) = if bt t k < 48 then -1 else if 57 < bt t k then -1 else numL (acc * 10 + (bt t k - 48)) (t.data.toList.drop (k + 1)) := by
  obtain ⟨c, hc, hd⟩ := drop_bt t k h
  have e1 : ((c.toNat : Int) < 48) ↔ c.toNat < 48 := by omega
  have e2 : ((57 : Int) < (c.toNat : Int)) ↔ 57 < c.toNat := by omega
  rw [hd, numL, ← hc]
  simp only [e1, e2]

set_option maxHeartbeats 1000000 in
theorem l08Number_any (s : ByteArray) (w : World) (hs : s.size ≤ maxLen) : Calls Tryd.prog 20 #[.string s] w (Keeps (.int .i64 (num3 s)) w) := by
  simp only [maxLen] at hs
  by_cases h1 : s.size < 1
  · have hr : num3 s = -1 := by unfold num3; rw [if_pos h1]
    have HR := Lib.hid hr
    have t1 : (s.size : Int) < 1 := by omega
    clear hr h1
    go_enter Tryd.func20, Tryd.ntmps20
    go_wp2
    go_ret
    exact ⟨by rw [HR.out]; rfl, rfl⟩
  by_cases h3 : 3 < s.size
  · have hr : num3 s = -1 := by unfold num3; rw [if_neg h1, if_pos h3]
    have HR := Lib.hid hr
    have t1 : ¬ (s.size : Int) < 1 := by omega
    have t3 : (3 : Int) < (s.size : Int) := by omega
    clear hr h1 h3
    go_enter Tryd.func20, Tryd.ntmps20
    go_wp2
    go_ret
    exact ⟨by rw [HR.out]; rfl, rfl⟩
  have hr : num3 s = numL 0 s.data.toList := by unfold num3; rw [if_neg h1, if_neg h3]
  have HR := Lib.hid hr
  have t1 : ¬ (s.size : Int) < 1 := by omega
  have t3 : ¬ (3 : Int) < (s.size : Int) := by omega
  have H3 := Lib.hid h3
  have hb := get_bt s
  clear hr h1 h3
  go_enter Tryd.func20, Tryd.ntmps20
  go_wp2
  go_loop [3, 4] (fun n i => ∃ k : Nat, ∃ acc : Int, k ≤ s.size ∧ n = .int .i64 acc ∧ i = .int .i64 k ∧ Hid (num3 s = numL acc (s.data.toList.drop k)) ∧ 0 ≤ acc ∧ Hid ((k = 0 → acc ≤ 0) ∧ (k = 1 → acc ≤ 9) ∧ (k = 2 → acc ≤ 99) ∧ (k = 3 → acc ≤ 999))) (fun _ i => s.size - (intOf i).toNat)
  case atStart => exact ⟨0, 0, by omega, rfl, rfl, Lib.hid (by rw [HR.out]; rfl), by omega, Lib.hid ⟨by omega, by omega, by omega, by omega⟩⟩
  case round =>
    obtain ⟨k, acc, hk, rfl, rfl, HE, a0, HA⟩ := hrel
    have ha := HA.out
    have h3 := H3.out
    by_cases hlt : k < s.size
    case neg =>
      have t5 : ¬ (k : Int) < (s.size : Int) := by omega
      have hr : num3 s = acc := by
        rw [HE.out, List.drop_of_length_le (by rw [Array.length_toList]; show s.size ≤ k; omega)]
        rfl
      have HR2 := Lib.hid hr
      clear hr ha h3
      go_wp2
      go_ret
      exact ⟨by rw [HR2.out]; rfl, rfl⟩
    have t5 : (k : Int) < (s.size : Int) := by omega
    have b0 := bt_nonneg s k
    have b1 := bt_le s k
    have hst := numL_step acc s k hlt
    have a9 : acc ≤ 99 := by omega
    by_cases c1 : bt s k < 48
    · have hr : num3 s = -1 := by rw [HE.out, hst, if_pos c1]
      have HR2 := Lib.hid hr
      clear hr hst ha h3
      go_wp2
      go_ret
      exact ⟨by rw [HR2.out]; rfl, rfl⟩
    by_cases c2 : 57 < bt s k
    · have hr : num3 s = -1 := by rw [HE.out, hst, if_neg c1, if_pos c2]
      have HR2 := Lib.hid hr
      clear hr hst ha h3
      go_wp2
      go_ret
      exact ⟨by rw [HR2.out]; rfl, rfl⟩
    have hr : num3 s = numL (acc * 10 + (bt s k - 48)) (s.data.toList.drop (k + 1)) := by rw [HE.out, hst, if_neg c1, if_neg c2]
    have HR2 := Lib.hid hr
    have ha2 : (k + 1 = 0 → acc * 10 + (bt s k - 48) ≤ 0) ∧ (k + 1 = 1 → acc * 10 + (bt s k - 48) ≤ 9) ∧ (k + 1 = 2 → acc * 10 + (bt s k - 48) ≤ 99) ∧ (k + 1 = 3 → acc * 10 + (bt s k - 48) ≤ 999) := ⟨by omega, by omega, by omega, by omega⟩
    have HA2 := Lib.hid ha2
    have w1 : IntKind.i64.wrap (acc * 10) = acc * 10 := IntWalk.i64_in _ ⟨by omega, by omega⟩
    have w2 : IntKind.u8.wrap (bt s k - 48) = bt s k - 48 := IntWalk.u8_in _ ⟨by omega, by omega⟩
    have w3 : IntKind.i64.wrap (bt s k - 48) = bt s k - 48 := IntWalk.i64_in _ ⟨by omega, by omega⟩
    have w4 : IntKind.i64.wrap (acc * 10 + (bt s k - 48)) = acc * 10 + (bt s k - 48) := IntWalk.i64_in _ ⟨by omega, by omega⟩
    have a2 : 0 ≤ acc * 10 + (bt s k - 48) := by omega
    clear hr hst ha h3 ha2
    go_wp2
    go_round
    case rel => exact ⟨k + 1, acc * 10 + (bt s k - 48), by omega, rfl, by go_num, HR2, a2, HA2⟩
    case measure => simp [intOf]; omega

theorem extract_size_le (t : ByteArray) (a b : Nat) : (t.extract a b).size ≤ t.size := by
  rw [ByteArray.size_extract]; omega

theorem cutAt_step (t : ByteArray) (k : Nat) (h : k < t.size) : cutAt t (k + 1) = if bt t k = 32 then ((cutAt t k).1 ++ [t.extract (cutAt t k).2 k], k + 1) else cutAt t k := by
  have hl : k < t.data.size := h
  have e : (t.data[k]?.getD 0 = 32) ↔ (bt t k = 32) := by
    rw [Array.getElem?_eq_getElem hl]
    show (t.data[k] = 32) ↔ _
    have hb : bt t k = (t.data[k].toNat : Int) := by
      unfold bt
      rw [dif_pos h]
      rfl
    rw [hb]
    constructor
    · intro h; rw [h]; rfl
    · intro h
      have : t.data[k].toNat = 32 := by omega
      exact UInt8.toNat_inj.1 this
  rw [cutAt]
  by_cases h2 : bt t k = 32
  · rw [if_pos (e.2 h2), if_pos h2]
  · rw [if_neg (fun h => h2 (e.1 h)), if_neg h2]

theorem cutAt_length (t : ByteArray) : ∀ k, (cutAt t k).1.length ≤ k
  | 0 => Nat.le_refl _
  | k + 1 => by
    have := cutAt_length t k
    unfold cutAt
    split
    · simp; omega
    · omega

set_option maxHeartbeats 2000000 in
theorem l08Cut_any (t : ByteArray) (w : World) (hs : t.size ≤ 1048576) : Calls Tryd.prog 19 #[.string t, .int .u8 32] w (Makes strsE id (cutB t) w) := by
  have hb := get_bt t
  have S := ((Star.nil w).alloc (cs := #[]) (ty := 9)).lit0 (α := ByteArray) (E := strE)
  go_enter Tryd.func19, Tryd.ntmps19
  go_wp2
  generalize hW : w.alloc _ = w0 at S ⊢
  clear hW
  obtain ⟨g, hg⟩ : ∃ g, g = w.heap.size := ⟨_, rfl⟩
  rw [← hg] at S ⊢
  clear hg
  go_loopw [5, 6, 7] (fun vo f i wr => ∃ k fr : Nat, ∃ v : Value, k ≤ t.size ∧ fr ≤ k ∧ fr = (cutAt t k).2 ∧ vo = v ∧ f = .int .i64 fr ∧ i = .int .i64 k ∧ Star w wr [oE strsE [v] (cutAt t k).1]) (fun _ _ i _ => t.size - (intOf i).toNat)
  case atStart => exact ⟨0, 0, _, by omega, by omega, rfl, rfl, rfl, rfl, S⟩
  case round =>
    clear S
    obtain ⟨k, fr, v, hk, hfr, hf, rfl, rfl, rfl, S⟩ := hrel
    obtain ⟨sa, sn, sc, rfl⟩ := S.slc 0 rfl
    have hlen := cutAt_length t k
    have hl : (cutAt t k).1.length ≤ 1000000000000 := by omega
    have HF := Lib.hid hf
    clear hf hlen
    by_cases hlt : k < t.size
    case neg =>
      have hke : k = t.size := by omega
      have hres : cutB t = (cutAt t k).1 ++ [t.extract fr t.size] := by unfold cutB; rw [HF.out, hke]
      have HRES := Lib.hid hres
      clear hres hke
      have t5 : ¬ (k : Int) < (t.size : Int) := by omega
      have f1 : (0 : Int) ≤ (fr : Int) := by omega
      have f2 : (fr : Int) ≤ (t.size : Int) := by omega
      have SA := ((S.alloc (cs := #[.string (t.extract fr t.size)]) (ty := 9)).str (x := t.extract fr t.size) (by have := extract_size_le t fr t.size; simp only [maxLen]; omega)).sel [2, 0]
      go_wp2_with (at_builtin; refine st1_StringS SA rfl rfl rfl rfl cell_a1 (one_mem rfl) hl ?_; intro ja jn jc w9 S9)
      obtain ⟨f9, z1, z2, z3⟩ := Star.out S9
      go_ret
      exact ⟨_, f9, rfl, by rw [HRES.out]; exact z1, z2, z3, S9.below⟩
    have t5 : (k : Int) < (t.size : Int) := by omega
    have hst := cutAt_step t k hlt
    by_cases h32 : bt t k = 32
    · rw [if_pos h32, ← HF.out] at hst
      have HST := Lib.hid hst
      clear hst
      have tb : (bt t k == 32) = true := by simpa using h32
      have f1 : (0 : Int) ≤ (fr : Int) := by omega
      have f2 : (fr : Int) ≤ (k : Int) := by omega
      have f3 : (k : Int) ≤ (t.size : Int) := by omega
      have H32 := Lib.hid h32
      clear h32
      have wk : IntKind.i64.wrap ((k : Int) + 1) = (k : Int) + 1 := IntWalk.i64_in _ ⟨by omega, by omega⟩
      have SA := ((S.alloc (cs := #[.string (t.extract fr k)]) (ty := 9)).str (x := t.extract fr k) (by have := extract_size_le t fr k; simp only [maxLen]; omega)).sel [2, 0]
      go_wp2_with (at_builtin; refine st1_StringS SA rfl rfl rfl rfl cell_a1 (one_mem rfl) hl ?_; intro ja jn jc w9 S9)
      go_roundw
      case rel => exact ⟨k + 1, k + 1, _, by omega, by omega, by rw [HST.out], rfl, by go_num, by go_num, by rw [HST.out]; exact S9⟩
      case measure => simp [intOf]; omega
    · rw [if_neg h32] at hst
      have HST := Lib.hid hst
      clear hst
      have tb : (bt t k == 32) = false := by simpa using h32
      have wk : IntKind.i64.wrap ((k : Int) + 1) = (k : Int) + 1 := IntWalk.i64_in _ ⟨by omega, by omega⟩
      go_wp2
      go_roundw
      case rel => exact ⟨k + 1, fr, _, by omega, by omega, by rw [HST.out]; exact HF.out, rfl, rfl, by go_num, by rw [HST.out]; exact S⟩
      case measure => simp [intOf]; omega

end Go.Proofs.YteddgooalncfgaaDoor
