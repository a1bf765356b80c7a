/-
  What this claim leans on: values in cells, contracts of functions (15 texts of this claim's own, laid together).
-/
import Derived.Lib.ItoaNum
import Derived.Laws.IdiomStrings
import Derived.Deep.DeepCutAuto
import Derived.Deep.RegionHeld3
import Derived.Deep.RegionLaw
import Derived.Test.YtodoghidckelcaaGreatDoorPackA
import Derived.Lib.SplitLaws
import Derived.Lib.IndexMore
import Derived.Lib.Strings
import Derived.Shelf.Strings.SlTrimAscii
import Derived.Test.YtodoghidckelcaaGreatDoorProg
import Derived.PlainAid
import Derived.Test.YtodoghidckelcaaGreatDoorRows
/-
  Numbers in decimal: Decimal of the reference (written by a program of this claim's own, gen_dec.py).
-/
namespace Go.Proofs.YtodoghidckelcaaGreatDoor
open Go.RowKit

/-- A number in decimal. -/
def decB (n : Nat) : ByteArray := ⟨(Lib.decDigits n).toArray⟩

theorem decB_small {n : Nat} (h : n < 10) : decB n = ⟨#[UInt8.ofNat (48 + n)]⟩ := by
  unfold decB
  rw [Lib.decDigits, dif_pos h]

theorem decB_step {n : Nat} (h : 10 ≤ n) : decB n = decB (n / 10) ++ ⟨#[UInt8.ofNat (48 + n % 10)]⟩ := by
  unfold decB
  rw [Lib.decDigits, dif_neg (by omega)]
  apply ByteArray.ext
  simp

theorem decB_len : ∀ (k n : Nat), n < 10 ^ (k + 1) → (decB n).size ≤ k + 1
  | 0, n, h => by
    rw [decB_small (by simpa using h)]
    exact Nat.le_refl 1
  | k + 1, n, h => by
    by_cases h10 : 10 ≤ n
    · rw [decB_step h10, ByteArray.size_append]
      have := decB_len k (n / 10) (by
        rw [Nat.pow_succ] at h
        omega)
      have e : (ByteArray.mk #[UInt8.ofNat (48 + n % 10)]).size = 1 := rfl
      omega
    · rw [decB_small (by omega)]
      have e : (ByteArray.mk #[UInt8.ofNat (48 + n)]).size = 1 := rfl
      omega

theorem decB_le {n : Nat} (h : n ≤ 9223372036854775807) : (decB n).size ≤ 19 := decB_len 18 n (by omega)

theorem u8_digit {v : Nat} (h : v < 10) : ((UInt8.ofNat (48 + v)).toNat : Int) = 48 + (v : Int) := by
  rw [UInt8.toNat_ofNat']
  have : (48 + v) % 2 ^ 8 = 48 + v := Nat.mod_eq_of_lt (by omega)
  omega

theorem cell1 (w : World) (v : Value) (ty : TypeId) : (w.alloc (.cells #[v] ty)).cell? ⟨w.heap.size, 0, none⟩ = some v := cell_a1 (cs := [v]) 0 v rfl

/-- string([]byte{c}). -/
theorem conv1 (d : UInt8) (c : Int) (hd : (d.toNat : Int) = c) (g : Nat) (w : World) (h : w.cell? ⟨g, 0, none⟩ = some (.int .u8 c)) : (convert 68 9 (.slice (some ⟨g, 0, none⟩) 1 1)).run Tryz.prog w = .ok (.string ⟨#[d]⟩) w := by
  have := run_convert_bytes_back (P := Tryz.prog) w 68 9 5 ⟨g, 0, none⟩ 1 [d] Tryz.underlying68 Tryz.underlying5 Tryz.underlying9 (fun j hj => by
    obtain rfl : j = 0 := by simpa using hj
    rw [Addr.add_lit]
    simp [hd, h])
  exact this

end Go.Proofs.YtodoghidckelcaaGreatDoor

/-
  Texts cut at a byte, and joined by it, in plain words.
-/
namespace Go.Proofs.YtodoghidckelcaaGreatDoor
open Go.RowKit

def mkB (l : List UInt8) : ByteArray := ⟨l.toArray⟩
theorem mkB_data (l : List UInt8) : (mkB l).data.toList = l := rfl
theorem mkB_size (l : List UInt8) : (mkB l).size = l.length := by show l.toArray.size = _; simp
theorem mkB_app (a b : List UInt8) : mkB (a ++ b) = mkB a ++ mkB b := by
  unfold mkB
  apply ByteArray.ext
  simp [ByteArray.data_append]
theorem mkB_of (b : ByteArray) : mkB b.data.toList = b := by cases b; rfl
theorem mkB_inj {a b : List UInt8} (h : mkB a = mkB b) : a = b := by rw [← mkB_data a, h, mkB_data]

theorem map_bytes (l : List ByteArray) (m : List (List UInt8)) (h : l.map (·.data.toList) = m) : l = m.map mkB := by
  rw [← h, List.map_map]
  refine (List.map_id l).symm.trans (List.map_congr_left fun x _ => (mkB_of x).symm)

theorem ixc_none (c : UInt8) : ∀ (x : List UInt8), c ∉ x → Lib.index x [c] = -1
  | [], _ => rfl
  | b :: l, h => by
    have hb : c ≠ b := fun e => h (e ▸ List.mem_cons_self ..)
    have ih := ixc_none c l (fun hm => h (List.mem_cons_of_mem _ hm))
    have hp : ([c] : List UInt8).isPrefixOf (b :: l) = false := by
      show (c == b && _) = false
      rw [show (c == b) = false from beq_eq_false_iff_ne.2 hb]; rfl
    rw [Lib.index, if_neg (by rw [hp]; decide), ih]
    rfl

theorem ixc_hit (c : UInt8) : ∀ (x r : List UInt8), c ∉ x → Lib.index (x ++ c :: r) [c] = (x.length : Int)
  | [], r, _ => by
    rw [List.nil_append, Lib.index, if_pos (by show (c == c && _) = true; simp)]
    rfl
  | b :: l, r, h => by
    have hb : c ≠ b := fun e => h (e ▸ List.mem_cons_self ..)
    have ih := ixc_hit c l r (fun hm => h (List.mem_cons_of_mem _ hm))
    have hp : ([c] : List UInt8).isPrefixOf (b :: (l ++ c :: r)) = false := by
      show (c == b && _) = false
      rw [show (c == b) = false from beq_eq_false_iff_ne.2 hb]; rfl
    rw [List.cons_append, Lib.index, if_neg (by rw [hp]; decide), ih, if_neg (by simp)]
    simp

theorem splitKc_none (c : UInt8) (x : List UInt8) (h : c ∉ x) (k : Nat) : Lib.splitK [c] 0 k x = [x] := by
  cases k with
  | zero => rfl
  | succ k => rw [Lib.splitK, if_pos (by rw [ixc_none c x h]; rfl)]

theorem splitKc_hit (c : UInt8) (x r : List UInt8) (h : c ∉ x) (k : Nat) : Lib.splitK [c] 0 (k + 1) (x ++ c :: r) = x :: Lib.splitK [c] 0 k r := by
  have hi := ixc_hit c x r h
  rw [Lib.splitK, if_neg (by rw [hi]; simp), hi]
  have e1 : (x ++ c :: r).take (((x.length : Int)).toNat + 0) = x := by simp
  have e2 : (x ++ c :: r).drop (((x.length : Int)).toNat + ([c] : List UInt8).length) = r := by
    rw [show x ++ c :: r = (x ++ [c]) ++ r by simp]
    exact List.drop_left' (by simp)
  rw [e1, e2]

/-- The library's Split at a byte. -/
def splitC (c : UInt8) (t : ByteArray) : List ByteArray := Lib.splitB ⟨#[c]⟩ 0 (Lib.countB t ⟨#[c]⟩) t

def joinC (c : UInt8) : List (List UInt8) → List UInt8
  | [] => []
  | [x] => x
  | x :: y :: r => x ++ c :: joinC c (y :: r)

theorem joinC_cons (c : UInt8) (x : List UInt8) (r : List (List UInt8)) (h : r ≠ []) : joinC c (x :: r) = x ++ c :: joinC c r := by
  cases r with
  | nil => exact absurd rfl h
  | cons y r => rfl

theorem splitK_join (c : UInt8) : ∀ (ws : List (List UInt8)), ws ≠ [] → (∀ w, w ∈ ws → c ∉ w) → Lib.splitK [c] 0 ((joinC c ws).count c) (joinC c ws) = ws
  | [], h, _ => absurd rfl h
  | [x], _, h => splitKc_none c x (h x (by simp)) _
  | x :: y :: r, _, h => by
    have hx := h x (by simp)
    rw [joinC_cons c x (y :: r) (by simp), List.count_append, List.count_eq_zero.2 hx, List.count_cons_self, Nat.zero_add, splitKc_hit c x _ hx, splitK_join c (y :: r) (by simp) (fun w hw => h w (by simp at hw ⊢; exact .inr hw))]

theorem splitC_join (c : UInt8) (ws : List (List UInt8)) (h0 : ws ≠ []) (h : ∀ w, w ∈ ws → c ∉ w) : splitC c (mkB (joinC c ws)) = ws.map mkB := by
  apply map_bytes
  unfold splitC Lib.countB
  rw [Lib.splitB_data]
  show Lib.splitK [c] 0 (Lib.count (joinC c ws) [c]) (joinC c ws) = ws
  rw [Lib.count_one]
  exact splitK_join c ws h0 h

theorem joinC_flat (c : UInt8) (x : List UInt8) (r : List (List UInt8)) : joinC c (x :: r) = x ++ r.flatMap (fun w => c :: w) := by
  induction r generalizing x with
  | nil => simp [joinC]
  | cons y r ih => rw [joinC_cons c x (y :: r) (by simp), ih y]; simp

theorem cut_hit (c : UInt8) (a b : List UInt8) (h : c ∉ a) : Lib.cut (a ++ c :: b) [c] = (a, b, true) := by
  unfold Lib.cut
  rw [ixc_hit c a b h, if_pos (by omega)]
  have e1 : (a ++ c :: b).take ((a.length : Int)).toNat = a := by simp
  have e2 : (a ++ c :: b).drop (((a.length : Int)).toNat + ([c] : List UInt8).length) = b := by
    rw [show a ++ c :: b = (a ++ [c]) ++ b by simp]
    exact List.drop_left' (by simp)
  rw [e1, e2]

theorem trim_hit (a p : List UInt8) : Lib.trimSuffix (a ++ p) p = a := by
  unfold Lib.trimSuffix
  rw [if_pos (by unfold Lib.hasSuffix; rw [List.isSuffixOf_iff_suffix]; exact List.suffix_append a p)]
  rw [List.length_append, Nat.add_sub_cancel]
  exact List.take_left' rfl

end Go.Proofs.YtodoghidckelcaaGreatDoor

/-
  Contracts of the library, laid at this program (by a program of this claim's own, layn.py, after the kit's own laying).
-/
namespace Go.Proofs
open Go.Shelf
def Tryz.lays160_ren : Go.Shelf.Ren := ⟨fun | 119 => 117 | 120 => 110 | 137 => 116 | 151 => 101 | 152 => 109 | 160 => 65 | 197 => 80 | 217 => 71 | 224 => 73 | 225 => 72 | 227 => 84 | 228 => 100 | 231 => 82 | 232 => 83 | 233 => 85 | 234 => 86 | 235 => 87 | 236 => 88 | 260 => 99 | 266 => 91 | 271 => 102 | n => n, fun | 0 => 0 | 3 => 3 | 4 => 4 | 5 => 5 | 9 => 9 | 21 => 21 | 46 => 102 | 105 => 107 | 116 => 111 | 117 => 112 | 119 => 137 | 124 => 115 | 138 => 139 | 139 => 140 | n => n, fun | 3 => 3 | 4 => 4 | n => n⟩
theorem Tryz.lays160 : Go.Proofs.Lays.n160 Tryz.prog Tryz.lays160_ren := {
  mixed := by kernel_rfl
  f119 := Tryz.func117.trans (congrArg some (by kernel_rfl))
  f120 := Tryz.func110.trans (congrArg some (by kernel_rfl))
  f137 := Tryz.func116.trans (congrArg some (by kernel_rfl))
  f151 := Tryz.func101.trans (congrArg some (by kernel_rfl))
  f152 := Tryz.func109.trans (congrArg some (by kernel_rfl))
  f160 := Tryz.func65.trans (congrArg some (by kernel_rfl))
  f197 := Tryz.func80.trans (congrArg some (by kernel_rfl))
  f217 := Tryz.func71.trans (congrArg some (by kernel_rfl))
  f224 := Tryz.func73.trans (congrArg some (by kernel_rfl))
  f225 := Tryz.func72.trans (congrArg some (by kernel_rfl))
  f227 := Tryz.func84.trans (congrArg some (by kernel_rfl))
  f228 := Tryz.func100.trans (congrArg some (by kernel_rfl))
  f231 := Tryz.func82.trans (congrArg some (by kernel_rfl))
  f232 := Tryz.func83.trans (congrArg some (by kernel_rfl))
  f233 := Tryz.func85.trans (congrArg some (by kernel_rfl))
  f234 := Tryz.func86.trans (congrArg some (by kernel_rfl))
  f235 := Tryz.func87.trans (congrArg some (by kernel_rfl))
  f236 := Tryz.func88.trans (congrArg some (by kernel_rfl))
  f260 := Tryz.func99.trans (congrArg some (by kernel_rfl))
  f266 := Tryz.func91.trans (congrArg some (by kernel_rfl))
  f271 := Tryz.func102.trans (congrArg some (by kernel_rfl))
  t0 := Tryz.underlying0
  a0 := Tryz.isAgg0
  z0 := Tryz.sizeOf0
  v0 := Tryz.zeroValue0
  t3 := Tryz.underlying3
  a3 := Tryz.isAgg3
  z3 := Tryz.sizeOf3
  v3 := Tryz.zeroValue3
  t4 := Tryz.underlying4
  a4 := Tryz.isAgg4
  z4 := Tryz.sizeOf4
  v4 := Tryz.zeroValue4
  t5 := Tryz.underlying5
  a5 := Tryz.isAgg5
  z5 := Tryz.sizeOf5
  v5 := Tryz.zeroValue5
  t9 := Tryz.underlying9
  a9 := Tryz.isAgg9
  z9 := Tryz.sizeOf9
  v9 := Tryz.zeroValue9
  t21 := Tryz.underlying21
  a21 := Tryz.isAgg21
  z21 := Tryz.sizeOf21
  v21 := Tryz.zeroValue21
  t46 := Tryz.underlying102
  a46 := Tryz.isAgg102
  z46 := Tryz.sizeOf102
  v46 := Tryz.zeroValue102
  t105 := Tryz.underlying107
  a105 := Tryz.isAgg107
  z105 := Tryz.sizeOf107
  v105 := Tryz.zeroValue107
  t116 := Tryz.underlying111
  a116 := Tryz.isAgg111
  z116 := Tryz.sizeOf111
  t117 := Tryz.underlying112
  a117 := Tryz.isAgg112
  z117 := Tryz.sizeOf112
  v117 := Tryz.zeroValue112
  t119 := Tryz.underlying137
  a119 := Tryz.isAgg137
  z119 := Tryz.sizeOf137
  t124 := Tryz.underlying115
  a124 := Tryz.isAgg115
  z124 := Tryz.sizeOf115
  v124 := Tryz.zeroValue115
  t138 := Tryz.underlying139
  a138 := Tryz.isAgg139
  z138 := Tryz.sizeOf139
  v138 := Tryz.zeroValue139
  t139 := Tryz.underlying140
  a139 := Tryz.isAgg140
  z139 := Tryz.sizeOf140
  v139 := Tryz.zeroValue140
  g3 := by kernel_rfl
  g4 := by kernel_rfl }
end Go.Proofs

/-
  Plain lemmas on a range of numbers. No program is named here.
-/
namespace Go.Proofs.YtodoghidckelcaaGreatDoor

theorem range_all {p : Nat → Bool} {n : Nat} (h : ∀ k, k < n → p k = true) : (List.range n).all p = true := by
  rw [List.all_eq_true]; intro x hx; exact h x (List.mem_range.1 hx)
theorem range_not {p : Nat → Bool} {n k : Nat} (hk : k < n) (h : p k = false) : (List.range n).all p = false := by
  rw [Bool.eq_false_iff]; intro ha; rw [List.all_eq_true] at ha; have := ha k (List.mem_range.2 hk); rw [h] at this; cases this

end Go.Proofs.YtodoghidckelcaaGreatDoor

/-
  What may be written with a move: the program's and the reference's test of a text.
-/
namespace Go.Proofs.YtodoghidckelcaaGreatDoor
open Go.RowKit Go.PlainAid

def outOk (t : ByteArray) : Bool := decide (t.size ≤ 3) && t.data.toList.all fun b => [97, 98, 99].contains b

theorem drop_all (p : UInt8 → Bool) : ∀ l : List UInt8, l.all p = true → l.dropWhile p = []
  | [], _ => rfl
  | b :: l, h => by
    rw [List.all_cons, Bool.and_eq_true] at h
    rw [List.dropWhile_cons, if_pos h.1]
    exact drop_all p l h.2
theorem drop_some (p : UInt8 → Bool) : ∀ l : List UInt8, l.all p = false → ∃ b r, l.dropWhile p = b :: r ∧ p b = false
  | [], h => by cases h
  | b :: l, h => by
    rw [List.dropWhile_cons]
    by_cases hb : p b = true
    · rw [if_pos hb]
      rw [List.all_cons, hb, Bool.true_and] at h
      exact drop_some p l h
    · rw [if_neg hb]
      exact ⟨b, l, rfl, by simpa using hb⟩
theorem trim_all (l cs : List UInt8) (h : l.all (fun b => cs.contains b) = true) : Lib.trimS l cs = [] := by
  have h1 : l.reverse.dropWhile (cs.contains ·) = [] := drop_all _ _ (by rw [List.all_reverse]; exact h)
  unfold Lib.trimS Lib.trimRightS Lib.trimLeftS
  rw [h1]
  rfl
theorem trim_some (l cs : List UInt8) (h : l.all (fun b => cs.contains b) = false) : Lib.trimS l cs ≠ [] := by
  obtain ⟨b, r, h1, h2⟩ := drop_some (cs.contains ·) l.reverse (by rw [List.all_reverse]; exact h)
  unfold Lib.trimS Lib.trimRightS Lib.trimLeftS
  rw [h1]
  intro e
  have h3 : (b :: r).reverse.all (cs.contains ·) = false := by rw [List.all_reverse, List.all_cons, h2]; rfl
  obtain ⟨b', r', h4, -⟩ := drop_some (cs.contains ·) _ h3
  rw [h4] at e
  cases e

set_option maxHeartbeats 1000000 in
theorem isOut_any (t : ByteArray) (w : World) (hs : t.size ≤ maxLen) :
    Calls Tryz.prog 38 #[.string t] w (Gives (.bool (outOk t)) w) := by
  have hcon := Any.strings_Trim_laid Tryz.lays160 (by kernel_rfl) t ⟨#[97, 98, 99]⟩ w hs (by decide) (ascii_of_all (by decide))
  change Calls Tryz.prog 65 _ _ (fun e w' => e = .returned (.string ⟨(Lib.trimS t.data.toList [97, 98, 99]).toArray⟩) ∧ Below w.heap.size w w') at hcon
  unfold outOk
  by_cases h3 : t.size ≤ 3
  case neg =>
    rw [decide_eq_false h3, Bool.false_and]
    have t1 : ¬ (t.size : Int) ≤ 3 := by omega
    clear hcon
    go_enter Tryz.func38, Tryz.ntmps38
    go_wp2
    go_ret
    exact ⟨rfl, Below.refl _ _⟩
  rw [decide_eq_true h3, Bool.true_and]
  have t1 : (t.size : Int) ≤ 3 := by omega
  cases hall : t.data.toList.all fun b => [97, 98, 99].contains b
  · have hne := trim_some _ _ hall
    generalize Lib.trimS t.data.toList [97, 98, 99] = r at hcon hne
    go_enter Tryz.func38, Tryz.ntmps38
    go_wp2_with fail
    refine hcon.mono ?_
    rintro e w1 ⟨rfl, hB⟩
    obtain ⟨b, r', rfl⟩ := List.exists_cons_of_ne_nil hne
    go_wp2
    go_ret
    exact ⟨rfl, hB⟩
  · have he := trim_all _ _ hall
    rw [he] at hcon
    go_enter Tryz.func38, Tryz.ntmps38
    go_wp2_with fail
    refine hcon.mono ?_
    rintro e w1 ⟨rfl, hB⟩
    go_wp2
    go_ret
    exact ⟨rfl, hB⟩

theorem isOut_is (r : Bool) (t : ByteArray) (w : World) (hr : outOk t = r) (hs : t.size ≤ maxLen) : Calls Tryz.prog 38 #[.string t] w (Gives (.bool r) w) := hr ▸ isOut_any t w hs

/-- A word in the first letters. -/
def wordIn (n : Int) (t : ByteArray) : Bool := (List.range t.size).all fun k => within (bt t k - 97) 0 (n - 1)

set_option maxHeartbeats 1000000 in
theorem l01Word_any (n : Int) (t : ByteArray) (w : World) (hn : 1 ≤ n ∧ n ≤ 100) (hs : t.size ≤ maxLen) :
    Calls Tryz.prog 50 #[.int .i64 n, .string t] w (Keeps (.bool (wordIn n t)) w) := by
  obtain ⟨m, hm⟩ : ∃ m, m = t.size := ⟨_, rfl⟩
  have hb := get_bt t
  have HW : Hid (wordIn n t = (List.range m).all fun k => within (bt t k - 97) 0 (n - 1)) := Lib.hid (by unfold wordIn; rw [hm])
  have wn : IntKind.i64.wrap (n - 1) = n - 1 := IntWalk.i64_in _ ⟨by omega, by omega⟩
  simp only [maxLen] at hs
  go_enter Tryz.func50, Tryz.ntmps50
  go_wp2
  go_loop [5] (fun i => ∃ k : Nat, k ≤ t.size ∧ i = .int .i64 k ∧ Hid (∀ i, i < k → within (bt t i - 97) 0 (n - 1) = true)) (fun i => t.size - (intOf i).toNat)
  case atStart => exact ⟨0, by omega, rfl, Lib.hid (fun i hi => absurd hi (by omega))⟩
  case round =>
    obtain ⟨k, hk, rfl, HE⟩ := hrel
    by_cases hlt : k < t.size
    case neg =>
      have t1 : ¬ (k : Int) < (t.size : Int) := by omega
      go_wp2
      go_ret
      have : wordIn n t = true := by rw [HW.out]; exact range_all (fun i hi => HE.out i (by omega))
      exact ⟨by rw [this]; rfl, rfl⟩
    have t1 : (k : Int) < (t.size : Int) := by omega
    have b0 := bt_nonneg t k
    have b1 := bt_le t k
    cases hok : within (bt t k - 97) 0 (n - 1)
    · have HOK := Lib.hid hok
      clear hok
      go_wp2_with fail
      refine (l00In_is false _ _ _ _ HOK.out).mono ?_
      rintro e w1 ⟨rfl, rfl⟩
      go_wp2
      go_ret
      have : wordIn n t = false := by rw [HW.out, hm]; exact range_not hlt HOK.out
      exact ⟨by rw [this]; rfl, rfl⟩
    · have HOK := Lib.hid hok
      clear hok
      go_wp2_with fail
      refine (l00In_is true _ _ _ _ HOK.out).mono ?_
      rintro e w1 ⟨rfl, rfl⟩
      go_wp2
      go_round
      case rel => exact ⟨k + 1, by omega, by go_num, Lib.hid (fun i hi => by by_cases h : i = k; (subst h; exact HOK.out); exact HE.out i (by omega))⟩
      case measure => simp [intOf]; omega

theorem l01Word_is (r : Bool) (n : Int) (t : ByteArray) (w : World) (hr : wordIn n t = r) (hn : 1 ≤ n ∧ n ≤ 100) (hs : t.size ≤ maxLen) :
    Calls Tryz.prog 50 #[.int .i64 n, .string t] w (Keeps (.bool r) w) := hr ▸ l01Word_any n t w hn hs

theorem abc_in (b : UInt8) : ([97, 98, 99] : List UInt8).contains b = within ((b.toNat : Int) - 97) 0 2 := by
  have key : (List.range 256).all (fun n => (([97, 98, 99] : List UInt8).contains (UInt8.ofNat n)) == within ((n : Int) - 97) 0 2) = true := by kernel_rfl
  have := List.all_eq_true.1 key b.toNat (List.mem_range.2 b.toNat_lt)
  simpa using this

theorem outOk_word (t : ByteArray) : outOk t = (decide (t.size ≤ 3) && wordIn 3 t) := by
  unfold outOk
  congr 1
  rw [Bool.eq_iff_iff, List.all_eq_true]
  unfold wordIn
  rw [List.all_eq_true]
  have hsz := Lib.size_eq t
  constructor
  · intro h k hk
    have hk := List.mem_range.1 hk
    have h1 := h (t.data.toList[k]'(by omega)) (List.getElem_mem _)
    rw [abc_in] at h1
    unfold bt
    rw [dif_pos hk]
    exact h1
  · intro h b hb
    obtain ⟨k, hk, rfl⟩ := List.getElem_of_mem hb
    have h1 := h k (List.mem_range.2 (by omega))
    unfold bt at h1
    rw [dif_pos (by omega)] at h1
    rw [abc_in]
    exact h1

set_option maxHeartbeats 1000000 in
theorem l07Text_any (t : ByteArray) (w : World) (hs : t.size ≤ maxLen) :
    Calls Tryz.prog 27 #[.string t] w (Keeps (.bool (outOk t)) w) := by
  rw [outOk_word]
  by_cases h3 : t.size ≤ 3
  case neg =>
    rw [decide_eq_false h3, Bool.false_and]
    have t1 : ¬ (t.size : Int) ≤ 3 := by omega
    go_enter Tryz.func27, Tryz.ntmps27
    go_wp2
    go_ret
    exact ⟨rfl, rfl⟩
  rw [decide_eq_true h3, Bool.true_and]
  have t1 : (t.size : Int) ≤ 3 := by omega
  cases hw : wordIn 3 t
  · have HW := Lib.hid hw
    clear hw
    go_enter Tryz.func27, Tryz.ntmps27
    go_wp2_with fail
    refine (l01Word_is false _ _ _ HW.out (by omega) hs).mono ?_
    rintro e w1 ⟨rfl, rfl⟩
    go_wp2
    go_ret
    exact ⟨rfl, rfl⟩
  · have HW := Lib.hid hw
    clear hw
    go_enter Tryz.func27, Tryz.ntmps27
    go_wp2_with fail
    refine (l01Word_is true _ _ _ HW.out (by omega) hs).mono ?_
    rintro e w1 ⟨rfl, rfl⟩
    go_wp2
    go_ret
    exact ⟨rfl, rfl⟩

theorem l07Text_is (r : Bool) (t : ByteArray) (w : World) (hr : outOk t = r) (hs : t.size ≤ maxLen) : Calls Tryz.prog 27 #[.string t] w (Keeps (.bool r) w) := hr ▸ l07Text_any t w hs

set_option maxHeartbeats 1000000 in
theorem notOut_any (t : ByteArray) (w : World) (hs : t.size ≤ maxLen) :
    Calls Tryz.prog 37 #[.string t] w (Gives (.bool (!outOk t)) w) := by
  obtain ⟨r, hr⟩ : ∃ r, r = outOk t := ⟨_, rfl⟩
  rw [← hr]
  have HR := Lib.hid hr.symm
  clear hr
  cases r <;>
  · go_enter Tryz.func37, Tryz.ntmps37
    go_wp2_with fail
    refine (isOut_is _ _ _ HR.out hs).mono ?_
    rintro e w1 ⟨rfl, hB⟩
    go_wp2
    go_ret
    exact ⟨rfl, hB⟩

end Go.Proofs.YtodoghidckelcaaGreatDoor

/-
  What a right move is, and the contracts of the functions that ask it (written by a program of this claim's own, gen_moveok.py).
-/
namespace Go.Proofs.YtodoghidckelcaaGreatDoor
open Go.RowKit

def isStopB (m : Move) : Bool := (m.to == -1 || m.to == -2) && m.dir == 0

/-- A turner's move is right for so many states and letters at the index of a letter or mark. -/
def moveOk (m : Move) (states letters at_ : Int) : Bool :=
  isStopB m || (within m.to 0 (states - 1) && within m.dir (-1) 1 && !(at_ == letters && m.dir == -1) && !(at_ == letters + 1 && m.dir == 1))

/-- A pebbler's. -/
def pmoveOk (m : PMove) (states letters at_ : Int) (lies : Bool) : Bool :=
  moveOk ⟨m.to, m.dir⟩ states letters at_ && within m.does 0 2 && (!(decide (m.to < 0) && m.does != 0) && !(lies && m.does == 1) && !(!lies && m.does == 2))

theorem isStop_any (m : Move) (w : World) : Calls Tryz.prog 77 #[.agg #[.int .i64 m.to, .int .i64 m.dir]] w (Gives (.bool (isStopB m)) w) := by
  cases h1 : (m.to == -1) <;> cases h2 : (m.to == -2) <;> cases h3 : (m.dir == 0)
  all_goals
    have hr := Lib.hid (show isStopB m = _ by unfold isStopB; rw [h1, h2, h3])
    go_enter Tryz.func77, Tryz.ntmps77
    go_wp2
    go_ret
    exact ⟨by rw [hr.out]; rfl, (Below.refl _ _).alloc (Nat.le_refl _) _⟩

theorem isStop_is (r : Bool) (m : Move) (w : World) (h : isStopB m = r) : Calls Tryz.prog 77 #[.agg #[.int .i64 m.to, .int .i64 m.dir]] w (Gives (.bool r) w) := h ▸ isStop_any m w

set_option maxHeartbeats 1000000 in
theorem isMove_any (m : Move) (states letters at_ : Int) (w : World) (hs : 0 ≤ states ∧ states ≤ 1152921504606846976) (hl : -1152921504606846976 ≤ letters ∧ letters ≤ 1152921504606846976) :
    Calls Tryz.prog 58 #[.agg #[.int .i64 m.to, .int .i64 m.dir], .int .i64 states, .int .i64 letters, .int .i64 at_] w (Gives (.bool (moveOk m states letters at_)) w) := by
  have hw1 : IntKind.i64.wrap (states - 1) = states - 1 := IntWalk.i64_in _ ⟨by omega, by omega⟩
  have hw2 : IntKind.i64.wrap (letters + 1) = letters + 1 := IntWalk.i64_in _ ⟨by omega, by omega⟩
  clear hs hl
  cases h0 : isStopB m
  case true =>
    have hr := Lib.hid (show moveOk m states letters at_ = true by unfold moveOk; rw [h0]; rfl)
    have H0 := Lib.hid h0; clear h0
    go_enter Tryz.func58, Tryz.ntmps58
    go_wp2_with fail
    generalize hW : w.alloc _ = w0
    obtain ⟨A0, hB⟩ := blk1 hW
    clear hW
    refine (isStop_is true m _ H0.out).mono ?_
    rintro e w1 ⟨rfl, hbl⟩
    have B1 := hB.trans (hbl.mono hB.size)
    clear hbl hB A0
    go_wp2
    go_ret
    exact ⟨by rw [hr.out]; rfl, B1⟩
  have H0 := Lib.hid h0
  cases h1 : within m.to 0 (states - 1)
  case false =>
    have hr := Lib.hid (show moveOk m states letters at_ = false by unfold moveOk; rw [h0, h1]; rfl)
    have H1 := Lib.hid h1; clear h0 h1
    go_enter Tryz.func58, Tryz.ntmps58
    go_wp2_with fail
    generalize hW : w.alloc _ = w0
    obtain ⟨A0, hB⟩ := blk1 hW
    clear hW
    refine (isStop_is false m _ H0.out).mono ?_
    rintro e w1 ⟨rfl, hbl⟩
    have B1 := hB.trans (hbl.mono hB.size)
    have A1 := A0.of hbl A0.lt
    have c0 := A1.cell 0 rfl
    have c1 := A1.cell 1 rfl
    clear hbl hB A0 A1
    have HB1 := Lib.hid B1; clear B1
    go_wp2_with fail
    refine (within_kis false _ _ _ _ H1.out).mono ?_
    rintro e w2 ⟨rfl, rfl⟩
    go_wp2
    go_ret
    exact ⟨by rw [hr.out]; rfl, HB1.out⟩
  have H1 := Lib.hid h1
  cases h2 : within m.dir (-1) 1
  case false =>
    have hr := Lib.hid (show moveOk m states letters at_ = false by unfold moveOk; rw [h0, h1, h2]; rfl)
    have H2 := Lib.hid h2; clear h0 h1 h2
    go_enter Tryz.func58, Tryz.ntmps58
    go_wp2_with fail
    generalize hW : w.alloc _ = w0
    obtain ⟨A0, hB⟩ := blk1 hW
    clear hW
    refine (isStop_is false m _ H0.out).mono ?_
    rintro e w1 ⟨rfl, hbl⟩
    have B1 := hB.trans (hbl.mono hB.size)
    have A1 := A0.of hbl A0.lt
    have c0 := A1.cell 0 rfl
    have c1 := A1.cell 1 rfl
    clear hbl hB A0 A1
    have HB1 := Lib.hid B1; clear B1
    go_wp2_with fail
    refine (within_kis true _ _ _ _ H1.out).mono ?_
    rintro e w2 ⟨rfl, rfl⟩
    go_wp2_with fail
    refine (within_kis false _ _ _ _ H2.out).mono ?_
    rintro e w3 ⟨rfl, rfl⟩
    go_wp2
    go_ret
    exact ⟨by rw [hr.out]; rfl, HB1.out⟩
  have H2 := Lib.hid h2
  cases h3 : (at_ == letters) <;> cases h4 : (m.dir == -1) <;> cases h5 : (at_ == letters + 1) <;> cases h6 : (m.dir == 1)
  all_goals
    have hr := Lib.hid (show moveOk m states letters at_ = _ by unfold moveOk; rw [h0, h1, h2, h3, h4, h5, h6])
    clear h0 h1 h2
    go_enter Tryz.func58, Tryz.ntmps58
    go_wp2_with fail
    generalize hW : w.alloc _ = w0
    obtain ⟨A0, hB⟩ := blk1 hW
    clear hW
    refine (isStop_is false m _ H0.out).mono ?_
    rintro e w1 ⟨rfl, hbl⟩
    have B1 := hB.trans (hbl.mono hB.size)
    have A1 := A0.of hbl A0.lt
    have c0 := A1.cell 0 rfl
    have c1 := A1.cell 1 rfl
    clear hbl hB A0 A1
    have HB1 := Lib.hid B1; clear B1
    go_wp2_with fail
    refine (within_kis true _ _ _ _ H1.out).mono ?_
    rintro e w2 ⟨rfl, rfl⟩
    go_wp2_with fail
    refine (within_kis true _ _ _ _ H2.out).mono ?_
    rintro e w3 ⟨rfl, rfl⟩
    go_wp2
    go_ret
    exact ⟨by rw [hr.out]; rfl, HB1.out⟩

theorem isMove_is (r : Bool) (m : Move) (states letters at_ : Int) (w : World) (hs : 0 ≤ states ∧ states ≤ 1152921504606846976) (hl : -1152921504606846976 ≤ letters ∧ letters ≤ 1152921504606846976) (h : moveOk m states letters at_ = r) :
    Calls Tryz.prog 58 #[.agg #[.int .i64 m.to, .int .i64 m.dir], .int .i64 states, .int .i64 letters, .int .i64 at_] w (Gives (.bool r) w) := h ▸ isMove_any m states letters at_ w hs hl

set_option maxHeartbeats 1000000 in
theorem l02Move_any (m : Move) (states letters at_ : Int) (w : World) (hs : 0 ≤ states ∧ states ≤ 1152921504606846976) (hl : -1152921504606846976 ≤ letters ∧ letters ≤ 1152921504606846976) :
    Calls Tryz.prog 49 #[.agg #[.int .i64 m.to, .int .i64 m.dir], .int .i64 states, .int .i64 letters, .int .i64 at_] w (Gives (.bool (moveOk m states letters at_)) w) := by
  have hw1 : IntKind.i64.wrap (states - 1) = states - 1 := IntWalk.i64_in _ ⟨by omega, by omega⟩
  have hw2 : IntKind.i64.wrap (letters + 1) = letters + 1 := IntWalk.i64_in _ ⟨by omega, by omega⟩
  clear hs hl
  cases h1 : (m.to == -1)
  case true =>
    have hr := Lib.hid (show moveOk m states letters at_ = (m.dir == 0) by have : m.to = -1 := (by simpa using h1); simp [moveOk, isStopB, within, this])
    go_enter Tryz.func49, Tryz.ntmps49
    go_wp2
    go_ret
    exact ⟨by rw [hr.out]; rfl, (Below.refl _ _).alloc (Nat.le_refl _) _⟩
  cases h2 : (m.to == -2)
  case true =>
    have hr := Lib.hid (show moveOk m states letters at_ = (m.dir == 0) by have : m.to = -2 := (by simpa using h2); simp [moveOk, isStopB, within, this])
    go_enter Tryz.func49, Tryz.ntmps49
    go_wp2
    go_ret
    exact ⟨by rw [hr.out]; rfl, (Below.refl _ _).alloc (Nat.le_refl _) _⟩
  have h0 : isStopB m = false := by unfold isStopB; rw [h1, h2]; rfl
  cases t1 : within m.to 0 (states - 1)
  case false =>
    have hr := Lib.hid (show moveOk m states letters at_ = false by unfold moveOk; rw [h0, t1]; rfl)
    have T1 := Lib.hid t1; clear h0 t1
    go_enter Tryz.func49, Tryz.ntmps49
    go_wp2_with fail
    generalize hW : w.alloc _ = w0
    obtain ⟨A0, hB⟩ := blk1 hW
    clear hW
    have c0 := A0.cell 0 rfl
    have c1 := A0.cell 1 rfl
    clear A0
    have HB1 := Lib.hid hB; clear hB
    refine (l00In_is false _ _ _ _ T1.out).mono ?_
    rintro e w2 ⟨rfl, rfl⟩
    go_wp2
    go_ret
    exact ⟨by rw [hr.out]; rfl, HB1.out⟩
  have T1 := Lib.hid t1
  cases t2 : within m.dir (-1) 1
  case false =>
    have hr := Lib.hid (show moveOk m states letters at_ = false by unfold moveOk; rw [h0, t1, t2]; rfl)
    have T2 := Lib.hid t2; clear h0 t1 t2
    go_enter Tryz.func49, Tryz.ntmps49
    go_wp2_with fail
    generalize hW : w.alloc _ = w0
    obtain ⟨A0, hB⟩ := blk1 hW
    clear hW
    have c0 := A0.cell 0 rfl
    have c1 := A0.cell 1 rfl
    clear A0
    have HB1 := Lib.hid hB; clear hB
    refine (l00In_is true _ _ _ _ T1.out).mono ?_
    rintro e w2 ⟨rfl, rfl⟩
    go_wp2_with fail
    refine (l00In_is false _ _ _ _ T2.out).mono ?_
    rintro e w3 ⟨rfl, rfl⟩
    go_wp2
    go_ret
    exact ⟨by rw [hr.out]; rfl, HB1.out⟩
  have T2 := Lib.hid t2
  cases h3 : (at_ == letters) <;> cases h4 : (m.dir == -1) <;> cases h5 : (at_ == letters + 1) <;> cases h6 : (m.dir == 1)
  all_goals
    have hr := Lib.hid (show moveOk m states letters at_ = _ by unfold moveOk; rw [h0, t1, t2, h3, h4, h5, h6])
    clear h0 t1 t2
    go_enter Tryz.func49, Tryz.ntmps49
    go_wp2_with fail
    generalize hW : w.alloc _ = w0
    obtain ⟨A0, hB⟩ := blk1 hW
    clear hW
    have c0 := A0.cell 0 rfl
    have c1 := A0.cell 1 rfl
    clear A0
    have HB1 := Lib.hid hB; clear hB
    refine (l00In_is true _ _ _ _ T1.out).mono ?_
    rintro e w2 ⟨rfl, rfl⟩
    go_wp2_with fail
    refine (l00In_is true _ _ _ _ T2.out).mono ?_
    rintro e w3 ⟨rfl, rfl⟩
    go_wp2
    go_ret
    exact ⟨by rw [hr.out]; rfl, HB1.out⟩

theorem l02Move_is (r : Bool) (m : Move) (states letters at_ : Int) (w : World) (hs : 0 ≤ states ∧ states ≤ 1152921504606846976) (hl : -1152921504606846976 ≤ letters ∧ letters ≤ 1152921504606846976) (h : moveOk m states letters at_ = r) :
    Calls Tryz.prog 49 #[.agg #[.int .i64 m.to, .int .i64 m.dir], .int .i64 states, .int .i64 letters, .int .i64 at_] w (Gives (.bool r) w) := h ▸ l02Move_any m states letters at_ w hs hl

end Go.Proofs.YtodoghidckelcaaGreatDoor

/-
  Contracts of the program's size, isAlphabet and areStates.
-/
namespace Go.Proofs.YtodoghidckelcaaGreatDoor
open Go.RowKit

theorem isAlphabet_any (n : Int) (w : World) : Calls Tryz.prog 55 #[.int .i64 n] w (Gives (.bool (within n 1 3)) w) := by
  go_enter Tryz.func55, Tryz.ntmps55
  go_wp2_with fail
  refine (within_any _ _ _ _).mono ?_
  rintro e w1 ⟨rfl, hbl⟩
  go_wp2
  go_ret
  exact ⟨rfl, hbl⟩

theorem within_is (r : Bool) (n lo hi : Int) (w : World) (h : within n lo hi = r) : Calls Tryz.prog 56 #[.int .i64 n, .int .i64 lo, .int .i64 hi] w (Gives (.bool r) w) := h ▸ within_any n lo hi w

theorem isAlphabet_is (r : Bool) (n : Int) (w : World) (h : within n 1 3 = r) : Calls Tryz.prog 55 #[.int .i64 n] w (Gives (.bool r) w) := h ▸ isAlphabet_any n w

/-- So many numbers, each of them a state. -/
def areStates (l : List Int) (count states : Int) : Bool := decide ((l.length : Int) = count) && l.all fun s => within s 0 (states - 1)

theorem any_not {α : Type} (p : α → Bool) (l : List α) : (!l.any fun x => !p x) = l.all p := by
  induction l with
  | nil => rfl
  | cons a l ih => rw [List.any_cons, List.all_cons, Bool.not_or, Bool.not_not, ih]

end Go.Proofs.YtodoghidckelcaaGreatDoor

/-
  The length, asked by the program's own generic size (written by a program of this claim's own, gen_size.py).
-/
namespace Go.Proofs.YtodoghidckelcaaGreatDoor
open Go.RowKit

theorem size_moves (v : Value) (l : List (Move)) (B : Nat) (w : World) (h : movesE.rd w B [v] l) : Calls Tryz.prog 57 #[v] w (Gives (.int .i64 l.length) w) := by
  have hl := len_le h
  obtain ⟨a, cap, he, h1, h2, -⟩ := h
  obtain rfl : v = .slice a l.length cap := by simpa using he
  clear he h1 h2
  go_enter Tryz.func57, Tryz.ntmps57
  go_wp2
  go_ret
  exact ⟨rfl, Below.refl _ _⟩

theorem size_movess (v : Value) (l : List (List Move)) (B : Nat) (w : World) (h : movessE.rd w B [v] l) : Calls Tryz.prog 54 #[v] w (Gives (.int .i64 l.length) w) := by
  have hl := len_le h
  obtain ⟨a, cap, he, h1, h2, -⟩ := h
  obtain rfl : v = .slice a l.length cap := by simpa using he
  clear he h1 h2
  go_enter Tryz.func54, Tryz.ntmps54
  go_wp2
  go_ret
  exact ⟨rfl, Below.refl _ _⟩

end Go.Proofs.YtodoghidckelcaaGreatDoor

/-
  Contracts of the laws' own helpers at one slice type (written by a program of this claim's own, gen_leaf.py).
-/
namespace Go.Proofs.YtodoghidckelcaaGreatDoor
open Go.RowKit

/-- The cells of one. -/
def cMove (x : Move) : List Value := [.int .i64 x.to, .int .i64 x.dir]

def bdMove (x : Move) : Prop := (-9223372036854775808 ≤ x.to ∧ x.to ≤ 9223372036854775807) ∧ (-9223372036854775808 ≤ x.dir ∧ x.dir ≤ 9223372036854775807)

theorem rd_moveE {w : World} {B : Nat} {cs : List Value} {x : Move} (h : moveE.rd w B cs x) : cs = cMove x ∧ bdMove x := by
  obtain ⟨c0, c1, rfl, ⟨rfl, b0⟩, ⟨rfl, b1⟩⟩ := h
  exact ⟨rfl, b0, b1⟩

theorem ow_moveE {w : World} {x : Move} (h : bdMove x) : moveE.ow w (cMove x) x [] := by
  obtain ⟨b0, b1⟩ := h
  exact ⟨_, _, [], [], rfl, rfl, ⟨⟨rfl, b0⟩, rfl⟩, ⟨⟨rfl, b1⟩, rfl⟩⟩

theorem ow_moveE_inv {w : World} {cs : List Value} {x : Move} {f : List Nat} (h : moveE.ow w cs x f) : cs = cMove x ∧ f = [] ∧ bdMove x := by
  have := rd_moveE (moveE.ow_rd (B := w.heap.size) (moveE.ow_lt h) h)
  obtain ⟨_, _, _, _, rfl, rfl, ⟨⟨_, _⟩, rfl⟩, ⟨⟨_, _⟩, rfl⟩⟩ := h
  exact ⟨this.1, rfl, this.2⟩

theorem rd_movesE {ty : TypeId} {w : World} {B : Nat} {v : Value} {l : List Move} (h : (sliceE moveE ty).rd w B [v] l) :
    ∃ a cap, v = .slice a l.length cap ∧ l.length ≤ cap ∧ cap ≤ 9223372036854775807 ∧ (a = none → cap = 0) ∧
      ∀ k, k < l.length → ∃ b o, a = some ⟨b, o, none⟩ ∧ b < B ∧ (w.cell? ⟨b, o + k * 2, none⟩ = some (.int .i64 (l[k]?.getD default).to) ∧ w.cell? ⟨b, o + k * 2 + 1, none⟩ = some (.int .i64 (l[k]?.getD default).dir)) ∧ bdMove (l[k]?.getD default) := by
  obtain ⟨a, cap, hv, h1, h2, h3, h4⟩ := h
  obtain rfl : v = .slice a l.length cap := by simpa using hv
  refine ⟨a, cap, rfl, h1, by simpa [maxLen] using h2, h3, fun k hk => ?_⟩
  obtain ⟨b, o, xs, e1, e2, e3, e4⟩ := h4 k _ (get_some default hk)
  obtain ⟨rfl, e5⟩ := rd_moveE e3
  have hs : moveE.size = 2 := rfl
  rw [hs] at e4
  exact ⟨b, o, e1, e2, ⟨by have := e4 0 _ rfl; simpa [Nat.add_assoc] using this, by have := e4 1 _ rfl; simpa [Nat.add_assoc] using this⟩, e5⟩

set_option maxHeartbeats 400000 in
theorem eqMove_0 (x0 x1 y0 y1 : Int) (w : World) (e0 : ¬ x0 = y0) : Calls Tryz.prog 90 #[.agg #[.int .i64 x0, .int .i64 x1], .agg #[.int .i64 y0, .int .i64 y1]] w (Gives (.bool false) w) := by
  have t0 : (x0 != y0) = true := by simp [e0]
  clear e0
  go_enter Tryz.func90, Tryz.ntmps90
  go_wp2
  go_ret
  exact ⟨rfl, ((Below.refl _ _).alloc (Nat.le_refl _) _).alloc (by simp) _⟩

set_option maxHeartbeats 400000 in
theorem eqMove_1 (x0 x1 y0 y1 : Int) (w : World) (e0 : x0 = y0) (e1 : ¬ x1 = y1) : Calls Tryz.prog 90 #[.agg #[.int .i64 x0, .int .i64 x1], .agg #[.int .i64 y0, .int .i64 y1]] w (Gives (.bool false) w) := by
  have t0 : (x0 != y0) = false := by simp [e0]
  clear e0
  have t1 : (x1 != y1) = true := by simp [e1]
  clear e1
  go_enter Tryz.func90, Tryz.ntmps90
  go_wp2
  go_ret
  exact ⟨rfl, ((Below.refl _ _).alloc (Nat.le_refl _) _).alloc (by simp) _⟩

set_option maxHeartbeats 400000 in
theorem eqMove_2 (x0 x1 y0 y1 : Int) (w : World) (e0 : x0 = y0) (e1 : x1 = y1) : Calls Tryz.prog 90 #[.agg #[.int .i64 x0, .int .i64 x1], .agg #[.int .i64 y0, .int .i64 y1]] w (Gives (.bool true) w) := by
  have t0 : (x0 != y0) = false := by simp [e0]
  clear e0
  have t1 : (x1 != y1) = false := by simp [e1]
  clear e1
  go_enter Tryz.func90, Tryz.ntmps90
  go_wp2
  go_ret
  exact ⟨rfl, ((Below.refl _ _).alloc (Nat.le_refl _) _).alloc (by simp) _⟩

theorem eqMove_any (x y : Move) (w : World) : Calls Tryz.prog 90 #[.agg #[.int .i64 x.to, .int .i64 x.dir], .agg #[.int .i64 y.to, .int .i64 y.dir]] w (Gives (.bool (decide (x = y))) w) := by
  obtain ⟨x0, x1⟩ := x
  obtain ⟨y0, y1⟩ := y
  dsimp only
  by_cases e0 : x0 = y0
  case neg => rw [decide_eq_false (fun e => e0 (by injection e))]; exact eqMove_0 _ _ _ _ w e0
  by_cases e1 : x1 = y1
  case neg => rw [decide_eq_false (fun e => e1 (by injection e))]; exact eqMove_1 _ _ _ _ w e0 e1
  rw [decide_eq_true (by rw [e0, e1])]; exact eqMove_2 _ _ _ _ w e0 e1

theorem eqMove_is (r : Bool) (x y : Move) (w : World) (h : decide (x = y) = r) : Calls Tryz.prog 90 #[.agg #[.int .i64 x.to, .int .i64 x.dir], .agg #[.int .i64 y.to, .int .i64 y.dir]] w (Gives (.bool r) w) := h ▸ eqMove_any x y w

theorem info_MoveS : (Tryz.prog.info? 54).map (fun i => (i.zero, i.size, i.bytes)) = some (some (.agg #[.int .i64 0, .int .i64 0]), 2, 16) := by kernel_rfl

set_option maxHeartbeats 1000000 in
theorem eqMoveS_any (va vb : Value) (la lb : List Move) (B B' : Nat) (w : World) (ha : movesE.rd w B [va] la) (hb : movesE.rd w B' [vb] lb) :
    Calls Tryz.prog 67 #[va, vb] w (Gives (.bool (decide (la = lb))) w) := by
  obtain ⟨a, ca, rfl, a1, a2, -, a4⟩ := rd_movesE ha
  obtain ⟨b, cb, rfl, b1, b2, -, b4⟩ := rd_movesE hb
  clear ha hb
  have H4 := Lib.hid a4; clear a4
  have K4 := Lib.hid b4; clear b4
  by_cases hlen : la.length = lb.length
  · obtain ⟨n, hn⟩ : ∃ n, n = la.length := ⟨_, rfl⟩
    rw [← hn] at hlen H4 a1 ⊢
    rw [← hlen] at K4 b1 ⊢
    have Hn := Lib.hid hn; clear hn
    have Hl := Lib.hid hlen; clear hlen
    go_enter Tryz.func67, Tryz.ntmps67
    go_wp2
    go_loopw [5] (fun i wr => ∃ k : Nat, k ≤ n ∧ i = .int .i64 k ∧ Below w.heap.size w wr ∧ Hid (∀ i, i < k → la[i]?.getD default = lb[i]?.getD default)) (fun i _ => n - (intOf i).toNat)
    case atStart => exact ⟨0, by omega, rfl, Below.refl _ _, Lib.hid (fun i hi => absurd hi (by omega))⟩
    case round =>
      obtain ⟨k, hk, rfl, hB, HE⟩ := hrel
      by_cases hlt : k < n
      · obtain ⟨p, o, rfl, -, ⟨hp0, hp1⟩, -⟩ := H4.out k hlt
        obtain ⟨p', o', rfl, -, ⟨hq0, hq1⟩, -⟩ := K4.out k hlt
        have p0 := (hB.cell (World.block_lt_of_cell? w _ hp0)).trans hp0
        have p1 := (hB.cell (World.block_lt_of_cell? w _ hp1)).trans hp1
        have q0 := (hB.cell (World.block_lt_of_cell? w _ hq0)).trans hq0
        have q1 := (hB.cell (World.block_lt_of_cell? w _ hq1)).trans hq1
        have g1 : p < wr.heap.size := World.block_lt_of_cell? wr _ p0
        have g2 : p' < wr.heap.size := World.block_lt_of_cell? wr _ q0
        have hov := cell_over wr
        clear hp0 hp1 hq0 hq1
        generalize hx : la[k]?.getD default = x at *
        generalize hy : lb[k]?.getD default = y at *
        have HX := Lib.hid hx; have HY := Lib.hid hy; clear hx hy
        by_cases he : x = y
        · have He := Lib.hid he; clear he
          go_wp2
          refine wp_region_over (by kernel_rfl) (by kernel_rfl) ?_
          repeat (go_big_quiet_step ((go_at_call 90; exact calls_over (eqMove_is true x y _ (decide_eq_true He.out)))))
          refine wpQuiet_nil ?_
          intro w1 hw1
          go_wp2
          go_roundw
          case rel => exact ⟨k + 1, by omega, by go_num, hB.trans (hw1.mono hB.size), Lib.hid (fun i hi => by by_cases h : i = k; (subst h; rw [HX.out, HY.out]; exact He.out); exact HE.out i (by omega))⟩
          case measure => simp [intOf]; omega
        · have He := Lib.hid he; clear he
          go_wp2
          refine wp_region_over (by kernel_rfl) (by kernel_rfl) ?_
          repeat (go_big_quiet_step ((go_at_call 90; exact calls_over (eqMove_is false x y _ (decide_eq_false He.out)))))
          refine wpQuiet_nil ?_
          intro w1 hw1
          go_wp2
          go_ret
          have : la ≠ lb := fun e => He.out (by rw [← HX.out, ← HY.out, e])
          exact ⟨by simp [this], hB.trans (hw1.mono hB.size)⟩
      · obtain rfl : k = n := by omega
        go_wp2
        go_ret
        have : la = lb := ext_getD default (by rw [← Hn.out, Hl.out]) (fun i hi => HE.out i (by rw [Hn.out]; exact hi))
        exact ⟨by simp [this], hB⟩
  · have hb := bne_len hlen
    have : la ≠ lb := fun e => hlen (by rw [e])
    have Ht := Lib.hid this; clear this
    go_enter Tryz.func67, Tryz.ntmps67
    go_wp2
    go_ret
    exact ⟨by simp [Ht.out], Below.refl _ _⟩

theorem eqMoveS_is (r : Bool) (va vb : Value) (la lb : List Move) (B B' : Nat) (w : World) (hr : decide (la = lb) = r) (ha : movesE.rd w B [va] la) (hb : movesE.rd w B' [vb] lb) :
    Calls Tryz.prog 67 #[va, vb] w (Gives (.bool r) w) := hr ▸ eqMoveS_any va vb la lb B B' w ha hb

end Go.Proofs.YtodoghidckelcaaGreatDoor

/-
  ValidTurner of the program: what it answers.
-/
namespace Go.Proofs.YtodoghidckelcaaGreatDoor
open Go.RowKit

/-- A row of a turner's table is right: its length, and each of its moves. -/
def mrowOk (row : List Move) (n letters : Int) : Bool :=
  decide ((row.length : Int) = letters + 2) && (List.range row.length).all fun k => moveOk (row[k]?.getD default) n letters (k : Int)

def validTurn (p : Turner) : Bool :=
  within p.letters 1 3 && (within p.moves.length 1 12 && (within p.start 0 (p.moves.length - 1) && p.moves.all fun row => mrowOk row p.moves.length p.letters))

section
variable (cs : List Value) (p : Turner) (B : Nat) (w : World) (hB0 : B ≤ w.heap.size) (h : turnE.rd w B cs p)
include hB0 h

set_option maxHeartbeats 1000000 in
theorem validTurn_no1 (h1 : within p.letters 1 3 = false) : Calls Tryz.prog 32 #[.agg cs.toArray] w (Gives (.bool false) w) := by
  obtain ⟨v2, rfl, -, -, hh2⟩ := rd_Turner h
  obtain ⟨a, cap, rfl, a1, a2, -, a4⟩ := rd_slice1 rfl hh2
  obtain ⟨n, hn⟩ : ∃ n, n = p.moves.length := ⟨_, rfl⟩
  have HN : Hid (n = p.moves.length) := Lib.hid hn
  rw [← hn] at a1 a4 hh2 ⊢
  have H2 := Lib.hid hh2
  have T1 := Lib.hid h1
  clear h hh2 hn a4 h1
  go_enter Tryz.func32, Tryz.ntmps32
  go_wp2_with fail
  generalize hW : w.alloc _ = w0
  obtain ⟨A0, hB⟩ := blk1 hW
  clear hW
  refine (size_movess _ p.moves B _ (movessE.rd_of (hB.mono hB0) H2.out)).mono ?_
  rintro e w1 ⟨rfl, b⟩
  rw [← HN.out]
  have A0 := A0.of b A0.lt
  have c0 := A0.cell 0 rfl
  have c1 := A0.cell 1 rfl
  have c2 := A0.cell 2 rfl
  have HB := Lib.hid (hB.trans (b.mono hB.size))
  have HA := Lib.hid A0
  clear A0 hB b
  go_wp2_with fail
  refine (isAlphabet_is false _ _ T1.out).mono ?_
  rintro e w2 ⟨rfl, b⟩
  have HB := Lib.hid (HB.out.trans (b.mono HB.out.size))
  have HA := Lib.hid (HA.out.of b HA.out.lt)
  have c0 := HA.out.cell 0 rfl
  have c1 := HA.out.cell 1 rfl
  have c2 := HA.out.cell 2 rfl
  clear b
  go_wp2
  go_ret
  exact ⟨rfl, HB.out⟩

set_option maxHeartbeats 1000000 in
theorem validTurn_no2 (h1 : within p.letters 1 3 = true) (h2 : within p.moves.length 1 12 = false) : Calls Tryz.prog 32 #[.agg cs.toArray] w (Gives (.bool false) w) := by
  obtain ⟨v2, rfl, -, -, hh2⟩ := rd_Turner h
  obtain ⟨a, cap, rfl, a1, a2, -, a4⟩ := rd_slice1 rfl hh2
  obtain ⟨n, hn⟩ : ∃ n, n = p.moves.length := ⟨_, rfl⟩
  have HN : Hid (n = p.moves.length) := Lib.hid hn
  rw [← hn] at a1 a4 h2 hh2 ⊢
  have H2 := Lib.hid hh2
  have T1 := Lib.hid h1
  have T2 := Lib.hid h2
  clear h hh2 hn a4 h1 h2
  go_enter Tryz.func32, Tryz.ntmps32
  go_wp2_with fail
  generalize hW : w.alloc _ = w0
  obtain ⟨A0, hB⟩ := blk1 hW
  clear hW
  refine (size_movess _ p.moves B _ (movessE.rd_of (hB.mono hB0) H2.out)).mono ?_
  rintro e w1 ⟨rfl, b⟩
  rw [← HN.out]
  have A0 := A0.of b A0.lt
  have c0 := A0.cell 0 rfl
  have c1 := A0.cell 1 rfl
  have c2 := A0.cell 2 rfl
  have HB := Lib.hid (hB.trans (b.mono hB.size))
  have HA := Lib.hid A0
  clear A0 hB b
  go_wp2_with fail
  refine (isAlphabet_is true _ _ T1.out).mono ?_
  rintro e w2 ⟨rfl, b⟩
  have HB := Lib.hid (HB.out.trans (b.mono HB.out.size))
  have HA := Lib.hid (HA.out.of b HA.out.lt)
  have c0 := HA.out.cell 0 rfl
  have c1 := HA.out.cell 1 rfl
  have c2 := HA.out.cell 2 rfl
  clear b
  go_wp2_with fail
  refine (within_kis false _ _ _ _ T2.out).mono ?_
  rintro e w3 ⟨rfl, rfl⟩
  go_wp2
  go_ret
  exact ⟨rfl, HB.out⟩

set_option maxHeartbeats 1000000 in
theorem validTurn_no3 (h1 : within p.letters 1 3 = true) (h2 : within p.moves.length 1 12 = true) (h3 : within p.start 0 (p.moves.length - 1) = false) : Calls Tryz.prog 32 #[.agg cs.toArray] w (Gives (.bool false) w) := by
  obtain ⟨v2, rfl, -, -, hh2⟩ := rd_Turner h
  obtain ⟨a, cap, rfl, a1, a2, -, a4⟩ := rd_slice1 rfl hh2
  obtain ⟨n, hn⟩ : ∃ n, n = p.moves.length := ⟨_, rfl⟩
  have HN : Hid (n = p.moves.length) := Lib.hid hn
  rw [← hn] at a1 a4 h2 h3 hh2 ⊢
  have H2 := Lib.hid hh2
  have T1 := Lib.hid h1
  have T2 := Lib.hid h2
  have hn1 := (within_true.1 h2)
  have T3 := Lib.hid h3
  have hw : IntKind.i64.wrap ((n : Int) - 1) = (n : Int) - 1 := IntWalk.i64_in _ ⟨by omega, by omega⟩
  clear hn1
  clear h hh2 hn a4 h1 h2 h3
  go_enter Tryz.func32, Tryz.ntmps32
  go_wp2_with fail
  generalize hW : w.alloc _ = w0
  obtain ⟨A0, hB⟩ := blk1 hW
  clear hW
  refine (size_movess _ p.moves B _ (movessE.rd_of (hB.mono hB0) H2.out)).mono ?_
  rintro e w1 ⟨rfl, b⟩
  rw [← HN.out]
  have A0 := A0.of b A0.lt
  have c0 := A0.cell 0 rfl
  have c1 := A0.cell 1 rfl
  have c2 := A0.cell 2 rfl
  have HB := Lib.hid (hB.trans (b.mono hB.size))
  have HA := Lib.hid A0
  clear A0 hB b
  go_wp2_with fail
  refine (isAlphabet_is true _ _ T1.out).mono ?_
  rintro e w2 ⟨rfl, b⟩
  have HB := Lib.hid (HB.out.trans (b.mono HB.out.size))
  have HA := Lib.hid (HA.out.of b HA.out.lt)
  have c0 := HA.out.cell 0 rfl
  have c1 := HA.out.cell 1 rfl
  have c2 := HA.out.cell 2 rfl
  clear b
  go_wp2_with fail
  refine (within_kis true _ _ _ _ T2.out).mono ?_
  rintro e w3 ⟨rfl, rfl⟩
  go_wp2_with fail
  refine (within_kis false _ _ _ _ T3.out).mono ?_
  rintro e w4 ⟨rfl, rfl⟩
  go_wp2
  go_ret
  exact ⟨rfl, HB.out⟩

set_option maxHeartbeats 1000000 in
theorem validTurn_yes (h1 : within p.letters 1 3 = true) (h2 : within p.moves.length 1 12 = true) (h3 : within p.start 0 (p.moves.length - 1) = true) : Calls Tryz.prog 32 #[.agg cs.toArray] w (Gives (.bool (p.moves.all fun row => mrowOk row p.moves.length p.letters)) w) := by
  obtain ⟨v2, rfl, -, -, hh2⟩ := rd_Turner h
  obtain ⟨a, cap, rfl, a1, a2, -, a4⟩ := rd_slice1 rfl hh2
  obtain ⟨n, hn⟩ : ∃ n, n = p.moves.length := ⟨_, rfl⟩
  have HN : Hid (n = p.moves.length) := Lib.hid hn
  rw [← hn] at a1 a4 h2 h3 hh2 ⊢
  have H2 := Lib.hid hh2
  have T1 := Lib.hid h1
  have T2 := Lib.hid h2
  have hn1 := (within_true.1 h2)
  have T3 := Lib.hid h3
  have hw : IntKind.i64.wrap ((n : Int) - 1) = (n : Int) - 1 := IntWalk.i64_in _ ⟨by omega, by omega⟩
  have hl1 := within_true.1 h1
  have A4 := Lib.hid a4
  clear h hh2 hn a4 h1 h2 h3
  go_enter Tryz.func32, Tryz.ntmps32
  go_wp2_with fail
  generalize hW : w.alloc _ = w0
  obtain ⟨A0, hB⟩ := blk1 hW
  clear hW
  refine (size_movess _ p.moves B _ (movessE.rd_of (hB.mono hB0) H2.out)).mono ?_
  rintro e w1 ⟨rfl, b⟩
  rw [← HN.out]
  have A0 := A0.of b A0.lt
  have c0 := A0.cell 0 rfl
  have c1 := A0.cell 1 rfl
  have c2 := A0.cell 2 rfl
  have HB := Lib.hid (hB.trans (b.mono hB.size))
  have HA := Lib.hid A0
  clear A0 hB b
  go_wp2_with fail
  refine (isAlphabet_is true _ _ T1.out).mono ?_
  rintro e w2 ⟨rfl, b⟩
  have HB := Lib.hid (HB.out.trans (b.mono HB.out.size))
  have HA := Lib.hid (HA.out.of b HA.out.lt)
  have c0 := HA.out.cell 0 rfl
  have c1 := HA.out.cell 1 rfl
  have c2 := HA.out.cell 2 rfl
  clear b
  go_wp2_with fail
  refine (within_kis true _ _ _ _ T2.out).mono ?_
  rintro e w3 ⟨rfl, rfl⟩
  go_wp2_with fail
  refine (within_kis true _ _ _ _ T3.out).mono ?_
  rintro e w4 ⟨rfl, rfl⟩
  go_wp2
  clear c0 c1
  go_loopw [31] (fun i wr => ∃ k : Nat, k ≤ n ∧ i = .int .i64 k ∧ Below w.heap.size w wr ∧ Blk wr w.heap.size [.int .i64 p.letters, .int .i64 p.start, .slice a n cap] 24 ∧ Hid (∀ i, i < k → mrowOk (p.moves[i]?.getD default) n p.letters = true)) (fun i _ => n - (intOf i).toNat)
  case atStart => exact ⟨0, by omega, rfl, HB.out, HA.out, Lib.hid (fun i hi => absurd hi (by omega))⟩
  case round =>
    obtain ⟨k, hk, rfl, hB, hA, HE⟩ := hrel
    by_cases hlt : k < n
    case neg =>
      obtain rfl : k = n := by omega
      go_wp2
      go_ret
      have : (p.moves.all fun row => mrowOk row (k : Int) p.letters) = true := all_of_idx default _ _ (fun i hi => HE.out i (by rw [HN.out]; exact hi))
      exact ⟨by rw [this]; rfl, hB⟩
    obtain ⟨b, o, vk, rfl, -, hc, hr⟩ := A4.out k hlt
    have g1 := (hB.cell (World.block_lt_of_cell? w _ hc)).trans hc
    have R := Lib.hid (movesE.rd_of (hB.mono hB0) hr)
    have R0 := Lib.hid hr; clear hr hc
    obtain ⟨row, hrow⟩ : ∃ x, x = p.moves[k]?.getD default := ⟨_, rfl⟩
    rw [← hrow] at R R0
    have HROW := Lib.hid hrow; clear hrow
    obtain ⟨ra, rcap, rfl, r1, r2, -, r4⟩ := rd_movesE R0.out
    clear R0
    have R4 := Lib.hid r4; clear r4
    have c0 := hA.cell 0 rfl
    have hA' := Lib.hid hA; have la := hA.lt; clear hA
    have HBr := Lib.hid hB; clear hB
    have hwl1 : IntKind.i64.wrap (p.letters + 2) = p.letters + 2 := IntWalk.i64_in _ ⟨by omega, by omega⟩
    have hov := cell_over wr
    by_cases hlen : (row.length : Int) = p.letters + 2
    case neg =>
      have hb : ((row.length : Int) != p.letters + 2) = true := by simpa using hlen
      have hno := Lib.hid (show mrowOk row n p.letters = false by unfold mrowOk; rw [decide_eq_false hlen]; rfl)
      clear hlen
      go_wp2
      refine wp_region_over (by kernel_rfl) (by kernel_rfl) ?_
      repeat (go_big_quiet_step ((go_at_call 57; exact calls_over (size_moves _ row _ _ (movesE.rd_of ((below_over wr _).mono (Nat.le_trans hB0 HBr.out.size)) R.out)))))
      refine wpQuiet_nil ?_
      intro w5 hw5
      go_wp2
      go_ret
      have : (p.moves.all fun row => mrowOk row (n : Int) p.letters) = false := all_not_idx default _ _ k (by rw [← HN.out]; exact hlt) (by rw [← HROW.out]; exact hno.out)
      exact ⟨by rw [this]; rfl, HBr.out.trans (hw5.mono HBr.out.size)⟩
    have hb : ((row.length : Int) != p.letters + 2) = false := by simpa using hlen
    have Hlen := Lib.hid hlen; clear hlen
    go_wp2
    refine wp_region_over (by kernel_rfl) (by kernel_rfl) ?_
    repeat (go_big_quiet_step ((go_at_call 57; exact calls_over (size_moves _ row _ _ (movesE.rd_of ((below_over wr _).mono (Nat.le_trans hB0 HBr.out.size)) R.out)))))
    refine wpQuiet_nil ?_
    intro w5 hw5
    go_wp2
    have hA5 := Lib.hid (hA'.out.of hw5 la)
    have hB5 := Lib.hid (HBr.out.trans (hw5.mono HBr.out.size))
    clear hw5 hov c0 g1
    have hrl : row.length ≤ 5 := by have := Hlen.out; omega
    have hrl' : 2 ≤ row.length := by have := Hlen.out; omega
    obtain ⟨m, hm⟩ : ∃ m, m = row.length := ⟨_, rfl⟩
    rw [← hm] at hrl hrl' R4 ⊢
    have HM := Lib.hid hm; clear hm
    go_loopw [43] (fun i wr => ∃ c : Nat, c ≤ m ∧ i = .int .i64 c ∧ Below w.heap.size w wr ∧ Blk wr w.heap.size [.int .i64 p.letters, .int .i64 p.start, .slice (some ⟨b, o, none⟩) n cap] 24 ∧ Hid (∀ i, i < c → moveOk (row[i]?.getD default) n p.letters (i : Int) = true)) (fun i _ => m - (intOf i).toNat)
    case atStart => exact ⟨0, by omega, rfl, hB5.out, hA5.out, Lib.hid (fun i hi => absurd hi (by omega))⟩
    case round =>
      obtain ⟨c, hc, rfl, hB, hA, HC⟩ := hrel
      by_cases hcm : c < m
      case neg =>
        obtain rfl : c = m := by omega
        have hyes : Hid (mrowOk row n p.letters = true) := Lib.hid (by unfold mrowOk; rw [decide_eq_true Hlen.out, Bool.true_and]; exact range_all (fun i hi => HC.out i (by rw [HM.out]; exact hi)))
        go_wp2
        go_roundw
        case rel => exact ⟨k + 1, by omega, by go_num, hB, hA, Lib.hid (fun i hi => by by_cases h : i = k; (subst h; rw [← HROW.out]; exact hyes.out); exact HE.out i (by omega))⟩
        case measure => simp [intOf]; omega
      obtain ⟨s, t, rfl, -, ⟨hp0, hp1⟩, -⟩ := R4.out c hcm
      have l0 := World.block_lt_of_cell? w _ hp0
      have p0 := fun o => ((hB.alloc hB.size o).cell l0).trans hp0
      have q0 := (hB.cell l0).trans hp0
      have q1 := (hB.cell (World.block_lt_of_cell? w _ hp1)).trans hp1
      clear hp0 hp1 l0 p0
      have d0 := fun o => (hA.alloc o).cell 0 rfl
      have HA5 := Lib.hid hA; clear hA
      have HB5 := Lib.hid hB; clear hB
      generalize hmv : row[c]?.getD default = mv at *
      have HMV := Lib.hid hmv; clear hmv
      cases hok : moveOk mv n p.letters (c : Int)
      case false =>
        have HOK := Lib.hid hok; clear hok
        go_wp2_with fail
        refine (isMove_is false mv _ _ _ _ ⟨by omega, by omega⟩ ⟨by omega, by omega⟩ HOK.out).mono ?_
        rintro e w6 ⟨rfl, b6⟩
        have b6 := ((Below.refl _ wr).alloc (Nat.le_refl _) _).trans (b6.mono (by simp))
        have HB6 := Lib.hid (HB5.out.trans (b6.mono HB5.out.size))
        clear b6
        have hno : Hid (mrowOk row n p.letters = false) := Lib.hid (by unfold mrowOk; rw [decide_eq_true Hlen.out, Bool.true_and]; exact range_not (by rw [← HM.out]; exact hcm) (by rw [HMV.out]; exact HOK.out))
        go_wp2
        go_ret
        have : (p.moves.all fun row => mrowOk row (n : Int) p.letters) = false := all_not_idx default _ _ k (by rw [← HN.out]; exact hlt) (by rw [← HROW.out]; exact hno.out)
        exact ⟨by rw [this]; rfl, HB6.out⟩
      have HOK := Lib.hid hok; clear hok
      go_wp2_with fail
      refine (isMove_is true mv _ _ _ _ ⟨by omega, by omega⟩ ⟨by omega, by omega⟩ HOK.out).mono ?_
      rintro e w6 ⟨rfl, b6⟩
      have b6 := ((Below.refl _ wr).alloc (Nat.le_refl _) _).trans (b6.mono (by simp))
      have HB6 := Lib.hid (HB5.out.trans (b6.mono HB5.out.size))
      have HA6 := Lib.hid (HA5.out.of b6 HA5.out.lt)
      clear b6
      go_wp2
      go_roundw
      case rel => exact ⟨c + 1, by omega, by go_num, HB6.out, HA6.out, Lib.hid (fun i hi => by by_cases h : i = c; (subst h; rw [HMV.out]; exact HOK.out); exact HC.out i (by omega))⟩
      case measure => simp [intOf]; omega

end

theorem validTurn_any (cs : List Value) (p : Turner) (B : Nat) (w : World) (hB0 : B ≤ w.heap.size) (h : turnE.rd w B cs p) :
    Calls Tryz.prog 32 #[.agg cs.toArray] w (Gives (.bool (validTurn p)) w) := by
  unfold validTurn
  cases h1 : within p.letters 1 3 with
  | false => rw [Bool.false_and]; exact validTurn_no1 cs p B w hB0 h h1
  | true =>
    rw [Bool.true_and]
    cases h2 : within p.moves.length 1 12 with
    | false => rw [Bool.false_and]; exact validTurn_no2 cs p B w hB0 h h1 h2
    | true =>
      rw [Bool.true_and]
      cases h3 : within p.start 0 (p.moves.length - 1) with
      | false => rw [Bool.false_and]; exact validTurn_no3 cs p B w hB0 h h1 h2 h3
      | true => rw [Bool.true_and]; exact validTurn_yes cs p B w hB0 h h1 h2 h3

end Go.Proofs.YtodoghidckelcaaGreatDoor

/-
  Contracts of slices.IndexFunc and slices.ContainsFunc at slices of slices (written by a program of this claim's own, gen_funcs.py).
-/
namespace Go.Proofs.YtodoghidckelcaaGreatDoor
open Go.RowKit

set_option maxHeartbeats 400000 in
theorem indexFunc_strs (v : Value) (l : List (ByteArray)) (B : Nat) (w : World) (f : FuncId) (x y : Array Value) (p : ByteArray → Bool) (hB0 : B ≤ w.heap.size) (h : strsE.rd w B [v] l)
    (hcf : ∀ args w1, (callFunc f args).run Tryz.prog w1 = .ok (.enter f args) w1)
    (hf : ∀ vk z w1, Below w.heap.size w w1 → strE.rd w1 B [vk] z → Calls Tryz.prog f (x.push vk ++ y) w1 (Gives (.bool (p z)) w1)) :
    Calls Tryz.prog 64 #[v, .func (.func f) x y] w (Gives (.int .i64 (firstIdx p l)) w) := by
  obtain ⟨a, cap, rfl, h1, h2, -, h4⟩ := rd_slice1 rfl h
  obtain ⟨n, hn⟩ : ∃ n, n = l.length := ⟨_, rfl⟩
  rw [← hn] at h4 h1 ⊢
  have Hn := Lib.hid hn; clear hn h
  have H4 := Lib.hid h4; clear h4
  have Hf := Lib.hid hf; clear hf
  go_enter Tryz.func64, Tryz.ntmps64
  go_wp2
  go_loopw [4, 5, 8] (fun _ _ i wr => ∃ k : Nat, k ≤ n ∧ i = .int .i64 k ∧ Below w.heap.size w wr ∧ Hid (∀ i y, i < k → l[i]? = some y → p y = false)) (fun _ _ i _ => n - (intOf i).toNat)
  case atStart => exact ⟨0, by omega, rfl, Below.refl _ _, Lib.hid (fun i y hi => absurd hi (by omega))⟩
  case round =>
    obtain ⟨k, hk, rfl, hB, HE⟩ := hrel
    by_cases hlt : k < n
    · obtain ⟨b, o, vk, rfl, -, hc, hr⟩ := H4.out k hlt
      have c1 := (hB.cell (World.block_lt_of_cell? w _ hc)).trans hc
      have HR := Lib.hid (strE.rd_of (hB.mono hB0) hr)
      clear hc hr
      have hkl := get_some default (l := l) (k := k) (by rw [← Hn.out]; exact hlt)
      have HK := Lib.hid hkl; clear hkl
      generalize l[k]?.getD default = z at *
      go_wp2_with fail
      refine (Hf.out _ z _ hB HR.out).mono ?_
      rintro e w1 ⟨rfl, hbl⟩
      have B1 := Lib.hid (hB.trans (hbl.mono hB.size)); clear hB hbl
      by_cases hp : p z = true
      · go_wp2
        go_ret
        refine ⟨?_, B1.out⟩
        rw [firstIdx_at p l k _ HK.out hp HE.out]
        rfl
      · rw [Bool.not_eq_true] at hp
        go_wp2
        go_roundw
        case rel =>
          refine ⟨k + 1, by omega, by go_num, B1.out, Lib.hid (fun i y hi hy => ?_)⟩
          by_cases e : i = k
          · subst e
            rw [HK.out] at hy
            cases hy
            exact hp
          · exact HE.out i y (by omega) hy
        case measure => simp [intOf]; omega
    · obtain rfl : k = n := by omega
      go_wp2
      go_ret
      refine ⟨?_, hB⟩
      rw [firstIdx_none p l (fun x hx => ?_)]
      · rfl
      · obtain ⟨i, hi, rfl⟩ := List.getElem_of_mem hx
        exact HE.out i _ (by rw [Hn.out]; exact hi) (List.getElem?_eq_getElem hi)

set_option maxHeartbeats 400000 in
theorem containsFunc_strs (v : Value) (l : List (ByteArray)) (B : Nat) (w : World) (f : FuncId) (x y : Array Value) (p : ByteArray → Bool) (hB0 : B ≤ w.heap.size) (h : strsE.rd w B [v] l)
    (hcf : ∀ args w1, (callFunc f args).run Tryz.prog w1 = .ok (.enter f args) w1)
    (hf : ∀ vk z w1, Below w.heap.size w w1 → strE.rd w1 B [vk] z → Calls Tryz.prog f (x.push vk ++ y) w1 (Gives (.bool (p z)) w1)) :
    Calls Tryz.prog 36 #[v, .func (.func f) x y] w (Gives (.bool (l.any p)) w) := by
  obtain ⟨a, n, cap, rfl⟩ := rd_slice h
  have Hf := Lib.hid hf; clear hf
  have H := Lib.hid h; clear h
  have Hcf := Lib.hid hcf; clear hcf
  go_enter Tryz.func36, Tryz.ntmps36
  go_wp2_with fail
  refine (indexFunc_strs _ l B _ f x y p hB0 H.out Hcf.out Hf.out).mono ?_
  rintro e w1 ⟨rfl, hbl⟩
  have he := Lib.hid (firstIdx_any p l)
  generalize firstIdx p l = j at *
  go_wp2
  go_ret
  exact ⟨by rw [← he.out]; rfl, hbl⟩

end Go.Proofs.YtodoghidckelcaaGreatDoor

/-
  Contracts of the laws' own helpers at one slice type (written by a program of this claim's own, gen_leaf.py).
-/
namespace Go.Proofs.YtodoghidckelcaaGreatDoor
open Go.RowKit

set_option maxHeartbeats 400000 in
theorem eqMoveSS_any (va vb : Value) (la lb : List (List Move)) (B B' : Nat) (w : World) (hB1 : B ≤ w.heap.size) (hB2 : B' ≤ w.heap.size) (ha : movessE.rd w B [va] la) (hb : movessE.rd w B' [vb] lb) :
    Calls Tryz.prog 41 #[va, vb] w (Gives (.bool (decide (la = lb))) w) := by
  obtain ⟨a, ca, rfl, a1, a2, -, a4⟩ := rd_slice1 rfl ha
  obtain ⟨b, cb, rfl, b1, b2, -, b4⟩ := rd_slice1 rfl hb
  clear ha hb
  have H4 := Lib.hid a4; clear a4
  have K4 := Lib.hid b4; clear b4
  by_cases hlen : la.length = lb.length
  · obtain ⟨n, hn⟩ : ∃ n, n = la.length := ⟨_, rfl⟩
    rw [← hn] at hlen H4 a1 ⊢
    rw [← hlen] at K4 b1 ⊢
    have Hn := Lib.hid hn; clear hn
    have Hl := Lib.hid hlen; clear hlen
    go_enter Tryz.func41, Tryz.ntmps41
    go_wp2
    go_loopw [5] (fun i wr => ∃ k : Nat, k ≤ n ∧ i = .int .i64 k ∧ Below w.heap.size w wr ∧ Hid (∀ i, i < k → la[i]?.getD [] = lb[i]?.getD [])) (fun i _ => n - (intOf i).toNat)
    case atStart => exact ⟨0, by omega, rfl, Below.refl _ _, Lib.hid (fun i hi => absurd hi (by omega))⟩
    case round =>
      obtain ⟨k, hk, rfl, hB, HE⟩ := hrel
      by_cases hlt : k < n
      · obtain ⟨p, o, v1, rfl, -, hc, hr1⟩ := H4.out k hlt
        obtain ⟨p', o', v2, rfl, -, hc', hr2⟩ := K4.out k hlt
        have g1 := World.block_lt_of_cell? w _ hc
        have g2 := World.block_lt_of_cell? w _ hc'
        have c1 := (hB.cell g1).trans hc
        have c2 := (hB.cell g2).trans hc'
        have g1 : p < wr.heap.size := Nat.lt_of_lt_of_le g1 hB.size
        have g2 : p' < wr.heap.size := Nat.lt_of_lt_of_le g2 hB.size
        have hov := cell_over wr
        have r1 := movesE.rd_of (hB.mono hB1) hr1
        have r2 := movesE.rd_of (hB.mono hB2) hr2
        have q1 : B ≤ wr.heap.size := Nat.le_trans hB1 hB.size
        have q2 : B' ≤ wr.heap.size := Nat.le_trans hB2 hB.size
        have R1 := Lib.hid r1; clear r1 hr1
        have R2 := Lib.hid r2; clear r2 hr2
        clear hc hc'
        by_cases he : la[k]?.getD [] = lb[k]?.getD []
        · have He := Lib.hid he; clear he
          go_wp2
          refine wp_region_over (by kernel_rfl) (by kernel_rfl) ?_
          repeat (go_big_quiet_step ((go_at_call 67; exact calls_over (eqMoveS_is true _ _ _ _ _ _ _ (decide_eq_true He.out) (movesE.rd_of ((below_over wr _).mono q1) R1.out) (movesE.rd_of ((below_over wr _).mono q2) R2.out)))))
          refine wpQuiet_nil ?_
          intro w1 hw1
          go_wp2
          go_roundw
          case rel => exact ⟨k + 1, by omega, by go_num, hB.trans (hw1.mono hB.size), Lib.hid (fun i hi => by by_cases h : i = k; (subst h; exact He.out); exact HE.out i (by omega))⟩
          case measure => simp [intOf]; omega
        · have He := Lib.hid he; clear he
          go_wp2
          refine wp_region_over (by kernel_rfl) (by kernel_rfl) ?_
          repeat (go_big_quiet_step ((go_at_call 67; exact calls_over (eqMoveS_is false _ _ _ _ _ _ _ (decide_eq_false He.out) (movesE.rd_of ((below_over wr _).mono q1) R1.out) (movesE.rd_of ((below_over wr _).mono q2) R2.out)))))
          refine wpQuiet_nil ?_
          intro w1 hw1
          go_wp2
          go_ret
          have : la ≠ lb := fun e => He.out (by rw [e])
          exact ⟨by simp [this], hB.trans (hw1.mono hB.size)⟩
      · obtain rfl : k = n := by omega
        go_wp2
        go_ret
        have : la = lb := ext_getD [] (by rw [← Hn.out, Hl.out]) (fun i hi => HE.out i (by rw [Hn.out]; exact hi))
        exact ⟨by simp [this], hB⟩
  · have hb := bne_len hlen
    have : la ≠ lb := fun e => hlen (by rw [e])
    have Ht := Lib.hid this; clear this
    go_enter Tryz.func41, Tryz.ntmps41
    go_wp2
    go_ret
    exact ⟨by simp [Ht.out], Below.refl _ _⟩

theorem eqMoveSS_is (r : Bool) (va vb : Value) (la lb : List (List Move)) (B B' : Nat) (w : World) (hB1 : B ≤ w.heap.size) (hB2 : B' ≤ w.heap.size) (hr : decide (la = lb) = r) (ha : movessE.rd w B [va] la) (hb : movessE.rd w B' [vb] lb) :
    Calls Tryz.prog 41 #[va, vb] w (Gives (.bool r) w) := hr ▸ eqMoveSS_any va vb la lb B B' w hB1 hB2 ha hb

theorem info_MoveSS : (Tryz.prog.info? 52).map (fun i => (i.zero, i.size, i.bytes)) = some (some (.slice none 0 0), 1, 24) := by kernel_rfl

end Go.Proofs.YtodoghidckelcaaGreatDoor

/-
  The contracts of the laws' own toTurner and szTurner (written by a program of this claim's own, gen_structs.py).
-/
namespace Go.Proofs.YtodoghidckelcaaGreatDoor
open Go.RowKit

/-- No list of it is longer than the laws let by. -/
def okTurner (r : Turner) : Prop := r.moves.length ≤ 1048576 ∧ (∀ x, x ∈ r.moves → x.length ≤ 1048576)

/-- How much of it the laws count. -/
def totTurner (r : Turner) : Nat := (r.moves.length + sumLen r.moves)

theorem ok_of_totTurner {r : Turner} (h : ¬ 1048576 < totTurner r) : okTurner r := by
  unfold totTurner at h
  exact ⟨by omega, fun x hx => by have := sumLen_mem _ _ hx; omega⟩

end Go.Proofs.YtodoghidckelcaaGreatDoor

/-
  Contracts of the laws' own helpers at one slice type (written by a program of this claim's own, gen_leaf.py).
-/
namespace Go.Proofs.YtodoghidckelcaaGreatDoor
open Go.RowKit

def sumF {α : Type} (f : α → Nat) (l : List α) : Nat := (l.map f).sum
theorem sumF_take {α : Type} (f : α → Nat) (l : List α) (k : Nat) (x : α) (h : l[k]? = some x) : sumF f (l.take (k + 1)) = sumF f (l.take k) + f x := by
  obtain ⟨hk, rfl⟩ := List.getElem?_eq_some_iff.1 h
  rw [List.take_succ_eq_append_getElem hk]
  unfold sumF
  rw [List.map_append, List.sum_append, List.map_cons, List.map_nil, List.sum_cons, List.sum_nil, Nat.add_zero]
theorem sumF_le {α : Type} (f : α → Nat) (l : List α) (k : Nat) : sumF f (l.take k) ≤ sumF f l := by
  conv => rhs; rw [← List.take_append_drop k l]
  simp only [sumF, List.map_append, List.sum_append]
  omega
theorem strs_ne {x y : ByteArray} (h : ¬ x = y) : (x.toList == y.toList) = false := by
  rw [beq_eq_false_iff_ne]
  intro e
  apply h
  rw [ByteArray.toList_eq, ByteArray.toList_eq] at e
  obtain ⟨a⟩ := x
  obtain ⟨b⟩ := y
  have : a = b := Array.toList_inj.1 e
  rw [this]
def strSz (l : List ByteArray) : Nat := l.length + sumF ByteArray.size l
def strsSz (l : List (List ByteArray)) : Nat := l.length + sumF strSz l

theorem info_StringS : (Tryz.prog.info? 9).map (fun i => (i.zero, i.size, i.bytes)) = some (some (.string ByteArray.empty), 1, 16) := by kernel_rfl

set_option maxHeartbeats 400000 in
theorem eqStringS_any (va vb : Value) (la lb : List ByteArray) (B B' : Nat) (w : World) (ha : strsE.rd w B [va] la) (hb : strsE.rd w B' [vb] lb) :
    Calls Tryz.prog 42 #[va, vb] w (Gives (.bool (decide (la = lb))) w) := by
  obtain ⟨a, ca, rfl, a1, a2, _, a4⟩ := rd_strs ha
  obtain ⟨b, cb, rfl, b1, b2, _, b4⟩ := rd_strs hb
  clear ha hb
  have H4 := Lib.hid a4; clear a4
  have K4 := Lib.hid b4; clear b4
  by_cases hlen : la.length = lb.length
  · obtain ⟨n, hn⟩ : ∃ n, n = la.length := ⟨_, rfl⟩
    rw [← hn] at hlen H4 a1 ⊢
    rw [← hlen] at K4 b1 ⊢
    have Hn := Lib.hid hn; clear hn
    have Hl := Lib.hid hlen; clear hlen
    go_enter Tryz.func42, Tryz.ntmps42
    go_wp2
    go_loopw [5] (fun i wr => ∃ k : Nat, k ≤ n ∧ i = .int .i64 k ∧ Below w.heap.size w wr ∧ Hid (∀ i, i < k → la[i]?.getD ByteArray.empty = lb[i]?.getD ByteArray.empty)) (fun i _ => n - (intOf i).toNat)
    case atStart => exact ⟨0, by omega, rfl, Below.refl _ _, Lib.hid (fun i hi => absurd hi (by omega))⟩
    case round =>
      obtain ⟨k, hk, rfl, hB, HE⟩ := hrel
      by_cases hlt : k < n
      · obtain ⟨p, o, rfl, _, hc, -⟩ := H4.out k hlt
        obtain ⟨p', o', rfl, _, hc', -⟩ := K4.out k hlt
        have c1 := (hB.cell (World.block_lt_of_cell? w _ hc)).trans hc
        have c2 := (hB.cell (World.block_lt_of_cell? w _ hc')).trans hc'
        clear hc hc'
        generalize hx : la[k]?.getD ByteArray.empty = x at *
        generalize hy : lb[k]?.getD ByteArray.empty = y at *
        have HX := Lib.hid hx; have HY := Lib.hid hy; clear hx hy
        by_cases he : x = y
        · have heb : (x.toList == y.toList) = true := by rw [he]; simp
          have He := Lib.hid he; clear he
          go_wp2
          go_quiet (fail)
          go_wp2
          go_roundw
          case rel => exact ⟨k + 1, by omega, by go_num, below_drewN hB _, Lib.hid (fun i hi => by by_cases h : i = k; (subst h; rw [HX.out, HY.out]; exact He.out); exact HE.out i (by omega))⟩
          case measure => simp [intOf]; omega
        · have heb : (x.toList == y.toList) = false := strs_ne he
          have He := Lib.hid he; clear he
          go_wp2
          go_quiet (fail)
          go_wp2
          go_ret
          have : la ≠ lb := fun e => He.out (by rw [← HX.out, ← HY.out, e])
          exact ⟨by simp [this], below_drewN hB _⟩
      · obtain rfl : k = n := by omega
        go_wp2
        go_ret
        have : la = lb := ext_getD ByteArray.empty (by rw [← Hn.out, Hl.out]) (fun i hi => HE.out i (by rw [Hn.out]; exact hi))
        exact ⟨by simp [this], hB⟩
  · have hb := bne_len hlen
    have : la ≠ lb := fun e => hlen (by rw [e])
    have Ht := Lib.hid this; clear this
    go_enter Tryz.func42, Tryz.ntmps42
    go_wp2
    go_ret
    exact ⟨by simp [Ht.out], Below.refl _ _⟩

theorem eqStringS_is (r : Bool) (va vb : Value) (la lb : List ByteArray) (B B' : Nat) (w : World) (hr : decide (la = lb) = r) (ha : strsE.rd w B [va] la) (hb : strsE.rd w B' [vb] lb) :
    Calls Tryz.prog 42 #[va, vb] w (Gives (.bool r) w) := hr ▸ eqStringS_any va vb la lb B B' w ha hb

end Go.Proofs.YtodoghidckelcaaGreatDoor

/-
  Contracts of the laws' own helpers at one slice type (written by a program of this claim's own, gen_leaf.py).
-/
namespace Go.Proofs.YtodoghidckelcaaGreatDoor
open Go.RowKit

set_option maxHeartbeats 400000 in
theorem eqStringSS_any (va vb : Value) (la lb : List (List ByteArray)) (B B' : Nat) (w : World) (hB1 : B ≤ w.heap.size) (hB2 : B' ≤ w.heap.size) (ha : strssE.rd w B [va] la) (hb : strssE.rd w B' [vb] lb) :
    Calls Tryz.prog 19 #[va, vb] w (Gives (.bool (decide (la = lb))) w) := by
  obtain ⟨a, ca, rfl, a1, a2, -, a4⟩ := rd_slice1 rfl ha
  obtain ⟨b, cb, rfl, b1, b2, -, b4⟩ := rd_slice1 rfl hb
  clear ha hb
  have H4 := Lib.hid a4; clear a4
  have K4 := Lib.hid b4; clear b4
  by_cases hlen : la.length = lb.length
  · obtain ⟨n, hn⟩ : ∃ n, n = la.length := ⟨_, rfl⟩
    rw [← hn] at hlen H4 a1 ⊢
    rw [← hlen] at K4 b1 ⊢
    have Hn := Lib.hid hn; clear hn
    have Hl := Lib.hid hlen; clear hlen
    go_enter Tryz.func19, Tryz.ntmps19
    go_wp2
    go_loopw [5] (fun i wr => ∃ k : Nat, k ≤ n ∧ i = .int .i64 k ∧ Below w.heap.size w wr ∧ Hid (∀ i, i < k → la[i]?.getD [] = lb[i]?.getD [])) (fun i _ => n - (intOf i).toNat)
    case atStart => exact ⟨0, by omega, rfl, Below.refl _ _, Lib.hid (fun i hi => absurd hi (by omega))⟩
    case round =>
      obtain ⟨k, hk, rfl, hB, HE⟩ := hrel
      by_cases hlt : k < n
      · obtain ⟨p, o, v1, rfl, -, hc, hr1⟩ := H4.out k hlt
        obtain ⟨p', o', v2, rfl, -, hc', hr2⟩ := K4.out k hlt
        have g1 := World.block_lt_of_cell? w _ hc
        have g2 := World.block_lt_of_cell? w _ hc'
        have c1 := (hB.cell g1).trans hc
        have c2 := (hB.cell g2).trans hc'
        have g1 : p < wr.heap.size := Nat.lt_of_lt_of_le g1 hB.size
        have g2 : p' < wr.heap.size := Nat.lt_of_lt_of_le g2 hB.size
        have hov := cell_over wr
        have r1 := strsE.rd_of (hB.mono hB1) hr1
        have r2 := strsE.rd_of (hB.mono hB2) hr2
        have q1 : B ≤ wr.heap.size := Nat.le_trans hB1 hB.size
        have q2 : B' ≤ wr.heap.size := Nat.le_trans hB2 hB.size
        have R1 := Lib.hid r1; clear r1 hr1
        have R2 := Lib.hid r2; clear r2 hr2
        clear hc hc'
        by_cases he : la[k]?.getD [] = lb[k]?.getD []
        · have He := Lib.hid he; clear he
          go_wp2
          refine wp_region_over (by kernel_rfl) (by kernel_rfl) ?_
          repeat (go_big_quiet_step ((go_at_call 42; exact calls_over (eqStringS_is true _ _ _ _ _ _ _ (decide_eq_true He.out) (strsE.rd_of ((below_over wr _).mono q1) R1.out) (strsE.rd_of ((below_over wr _).mono q2) R2.out)))))
          refine wpQuiet_nil ?_
          intro w1 hw1
          go_wp2
          go_roundw
          case rel => exact ⟨k + 1, by omega, by go_num, hB.trans (hw1.mono hB.size), Lib.hid (fun i hi => by by_cases h : i = k; (subst h; exact He.out); exact HE.out i (by omega))⟩
          case measure => simp [intOf]; omega
        · have He := Lib.hid he; clear he
          go_wp2
          refine wp_region_over (by kernel_rfl) (by kernel_rfl) ?_
          repeat (go_big_quiet_step ((go_at_call 42; exact calls_over (eqStringS_is false _ _ _ _ _ _ _ (decide_eq_false He.out) (strsE.rd_of ((below_over wr _).mono q1) R1.out) (strsE.rd_of ((below_over wr _).mono q2) R2.out)))))
          refine wpQuiet_nil ?_
          intro w1 hw1
          go_wp2
          go_ret
          have : la ≠ lb := fun e => He.out (by rw [e])
          exact ⟨by simp [this], hB.trans (hw1.mono hB.size)⟩
      · obtain rfl : k = n := by omega
        go_wp2
        go_ret
        have : la = lb := ext_getD [] (by rw [← Hn.out, Hl.out]) (fun i hi => HE.out i (by rw [Hn.out]; exact hi))
        exact ⟨by simp [this], hB⟩
  · have hb := bne_len hlen
    have : la ≠ lb := fun e => hlen (by rw [e])
    have Ht := Lib.hid this; clear this
    go_enter Tryz.func19, Tryz.ntmps19
    go_wp2
    go_ret
    exact ⟨by simp [Ht.out], Below.refl _ _⟩

theorem eqStringSS_is (r : Bool) (va vb : Value) (la lb : List (List ByteArray)) (B B' : Nat) (w : World) (hB1 : B ≤ w.heap.size) (hB2 : B' ≤ w.heap.size) (hr : decide (la = lb) = r) (ha : strssE.rd w B [va] la) (hb : strssE.rd w B' [vb] lb) :
    Calls Tryz.prog 19 #[va, vb] w (Gives (.bool r) w) := hr ▸ eqStringSS_any va vb la lb B B' w hB1 hB2 ha hb

theorem info_StringSS : (Tryz.prog.info? 33).map (fun i => (i.zero, i.size, i.bytes)) = some (some (.slice none 0 0), 1, 24) := by kernel_rfl

end Go.Proofs.YtodoghidckelcaaGreatDoor
