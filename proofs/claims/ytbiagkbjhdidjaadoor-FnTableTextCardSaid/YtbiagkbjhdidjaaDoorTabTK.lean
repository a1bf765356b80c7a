/-
  The text of a table, and how the program reads it, in plain words.
-/
import Derived.Lib.ItoaNum
import Derived.Lib.ParseIntB
import Derived.Lib.SlicesS
import Derived.Test.YtbiagkbjhdidjaaDoorSplitPK
import Derived.Test.YtbiagkbjhdidjaaDoorTabDefK
namespace Go.Proofs.YtbiagkbjhdidjaaDoor
open Go.RowKit

def exW (e : Ext) : List UInt8 := if e.side = -1 then 60 :: Lib.decDigits e.to.toNat else if e.side = 1 then 62 :: Lib.decDigits e.to.toNat else if e.to = -3 then [111, 110] else if e.to = -2 then [110, 111] else [121, 101, 115]

def exsT (l : List Ext) : List UInt8 := l.flatMap fun e => 32 :: exW e

def leftW : List UInt8 := [108, 101, 102, 116]
def rightW : List UInt8 := [114, 105, 103, 104, 116]

def tableT (x : Table) : List UInt8 := leftW ++ exsT x.left ++ 10 :: (rightW ++ exsT x.right) ++ [10]

def numN (s : List UInt8) : Int := match Lib.parseIntB 64 s with
  | .ok v => v
  | _ => 0

def exKinds : List ByteArray := [⟨#[111, 110]⟩, ⟨#[110, 111]⟩, ⟨#[121, 101, 115]⟩]

/-- All right exits of at most so many states. -/
def allEx (n : Nat) : List Ext := ((List.range n).map fun p => ⟨-1, (p : Nat)⟩) ++ ((List.range n).map fun p => ⟨1, (p : Nat)⟩) ++ [⟨0, -3⟩, ⟨0, -2⟩, ⟨0, -1⟩]

theorem mem_allEx {n : Nat} {e : Ext} (h : exitOk n e) : e ∈ allEx n := by
  obtain ⟨s, t⟩ := e
  unfold exitOk at h
  simp only at h
  unfold allEx
  rcases h with ⟨rfl, h2, h3⟩ | ⟨rfl | rfl, h2, h3⟩
  · have : t = -3 ∨ t = -2 ∨ t = -1 := by omega
    rcases this with rfl | rfl | rfl <;> simp
  · refine List.mem_append_left _ (List.mem_append_left _ (List.mem_map.2 ⟨t.toNat, List.mem_range.2 (by omega), ?_⟩))
    rw [show ((t.toNat : Nat) : Int) = t by omega]
  · refine List.mem_append_left _ (List.mem_append_right _ (List.mem_map.2 ⟨t.toNat, List.mem_range.2 (by omega), ?_⟩))
    rw [show ((t.toNat : Nat) : Int) = t by omega]

theorem allEx_mono {n m : Nat} (h : n ≤ m) {e : Ext} (he : exitOk n e) : exitOk m e := by unfold exitOk at he ⊢; omega

/-- What is read of a word. -/
structure ReadsW (e : Ext) : Prop where
  no32 : (32 : UInt8) ∉ exW e
  no10 : (10 : UInt8) ∉ exW e
  small : (exW e).length ≤ 3
  inside : e.side = 0 → Lib.idxOfS exKinds (mkB (exW e)) - 3 = e.to ∧ Lib.hasPrefix (exW e) [60] = false ∧ Lib.hasPrefix (exW e) [62] = false
  left : e.side = -1 → Lib.hasPrefix (exW e) [60] = true ∧ Lib.hasPrefix (exW e) [62] = false ∧ Lib.parseIntB 64 ((exW e).drop 1) = .ok e.to ∧ (exW e).drop 1 = Lib.decDigits e.to.toNat ∧ Lib.idxOfS exKinds (mkB (exW e)) = -1
  right : e.side = 1 → Lib.hasPrefix (exW e) [60] = false ∧ Lib.hasPrefix (exW e) [62] = true ∧ Lib.parseIntB 64 ((exW e).drop 1) = .ok e.to ∧ (exW e).drop 1 = Lib.decDigits e.to.toNat ∧ Lib.idxOfS exKinds (mkB (exW e)) = -1

theorem dec12 (n : Nat) (h : n < 12) : Lib.decDigits n = if n < 10 then [UInt8.ofNat (48 + n)] else [49, UInt8.ofNat (48 + (n - 10))] := by
  by_cases h1 : n < 10
  · rw [if_pos h1, Lib.decDigits, dif_pos h1]
  · rw [if_neg h1, Lib.decDigits, dif_neg h1, Lib.decDigits, dif_pos (by omega)]
    rw [show n / 10 = 1 by omega, show n % 10 = n - 10 by omega]
    rfl

def okOf (r : Lib.NumEnd Int) (v : Int) : Bool := match r with
  | .ok x => decide (x = v)
  | _ => false

theorem okOf_iff {r : Lib.NumEnd Int} {v : Int} (h : okOf r v = true) : r = .ok v := by
  cases r with
  | ok x => exact congrArg _ (of_decide_eq_true h)
  | «syntax» => cases h
  | range => cases h

/-- The word of an exit, with its number written out. -/
def exW2 (e : Ext) : List UInt8 := if e.side = -1 then 60 :: (if e.to.toNat < 10 then [UInt8.ofNat (48 + e.to.toNat)] else [49, UInt8.ofNat (48 + (e.to.toNat - 10))]) else if e.side = 1 then 62 :: (if e.to.toNat < 10 then [UInt8.ofNat (48 + e.to.toNat)] else [49, UInt8.ofNat (48 + (e.to.toNat - 10))]) else if e.to = -3 then [111, 110] else if e.to = -2 then [110, 111] else [121, 101, 115]

theorem exW_is {e : Ext} (h : exitOk 12 e) : exW e = exW2 e := by
  unfold exW exW2
  by_cases h1 : e.side = -1
  · rw [if_pos h1, if_pos h1, dec12 _ (by unfold exitOk at h; omega)]
  · rw [if_neg h1, if_neg h1]
    by_cases h2 : e.side = 1
    · rw [if_pos h2, if_pos h2, dec12 _ (by unfold exitOk at h; omega)]
    · rw [if_neg h2, if_neg h2]

def readsB (e : Ext) : Bool :=
  !(exW2 e).contains 32 && (!(exW2 e).contains 10 && (decide ((exW2 e).length ≤ 3) &&
  (if e.side = 0 then decide (Lib.idxOfS exKinds (mkB (exW2 e)) - 3 = e.to) && (!Lib.hasPrefix (exW2 e) [60] && !Lib.hasPrefix (exW2 e) [62])
   else if e.side = -1 then Lib.hasPrefix (exW2 e) [60] && (!Lib.hasPrefix (exW2 e) [62] && (okOf (Lib.parseIntB 64 ((exW2 e).drop 1)) e.to && decide (Lib.idxOfS exKinds (mkB (exW2 e)) = -1)))
   else !Lib.hasPrefix (exW2 e) [60] && (Lib.hasPrefix (exW2 e) [62] && (okOf (Lib.parseIntB 64 ((exW2 e).drop 1)) e.to && decide (Lib.idxOfS exKinds (mkB (exW2 e)) = -1))))))

theorem reads_all : ((allEx 12).all readsB) = true := by decide +kernel

theorem readsW {e : Ext} (h : exitOk 12 e) : ReadsW e := by
  have hb := List.all_eq_true.1 reads_all e (mem_allEx h)
  unfold readsB at hb
  rw [← exW_is h, Bool.and_eq_true, Bool.and_eq_true, Bool.and_eq_true, Bool.not_eq_true', Bool.not_eq_true', decide_eq_true_eq] at hb
  obtain ⟨h1, h2, h3, h4⟩ := hb
  refine ⟨by simpa using h1, by simpa using h2, h3, fun hs => ?_, fun hs => ?_, fun hs => ?_⟩
  · rw [if_pos hs, Bool.and_eq_true, Bool.and_eq_true, decide_eq_true_eq, Bool.not_eq_true', Bool.not_eq_true'] at h4
    exact ⟨h4.1, h4.2.1, h4.2.2⟩
  · rw [if_neg (by omega), if_pos hs, Bool.and_eq_true, Bool.and_eq_true, Bool.and_eq_true, Bool.not_eq_true', decide_eq_true_eq] at h4
    refine ⟨h4.1, h4.2.1, okOf_iff h4.2.2.1, ?_, h4.2.2.2⟩
    unfold exW
    rw [if_pos hs]
    rfl
  · rw [if_neg (by omega), if_neg (by omega), Bool.and_eq_true, Bool.and_eq_true, Bool.and_eq_true, Bool.not_eq_true', decide_eq_true_eq] at h4
    refine ⟨h4.1, h4.2.1, okOf_iff h4.2.2.1, ?_, h4.2.2.2⟩
    unfold exW
    rw [if_neg (by omega), if_pos hs]
    rfl

theorem no_flat {c : UInt8} (hc : c ≠ 32) {n : Nat} (l : List Ext) (h : ∀ e, e ∈ l → c ∉ exW e) : c ∉ exsT l := by
  unfold exsT
  intro hm
  obtain ⟨e, he, hm⟩ := List.mem_flatMap.1 hm
  rcases List.mem_cons.1 hm with hm | hm
  · exact hc hm
  · exact h e he hm

/-- A line of a table's text, cut at the blanks. -/
theorem line_split (x : List UInt8) (hx : (32 : UInt8) ∉ x) (l : List Ext) (h : ∀ e, e ∈ l → exitOk 12 e) : splitC 32 (mkB (x ++ exsT l)) = mkB x :: l.map fun e => mkB (exW e) := by
  have e1 : x ++ exsT l = joinC 32 (x :: l.map exW) := by
    rw [joinC_flat]
    unfold exsT
    rw [List.flatMap_map]
  rw [e1, splitC_join 32 _ (by simp) (fun w hw => ?_)]
  · simp
  · rcases List.mem_cons.1 hw with rfl | hw
    · exact hx
    · obtain ⟨e, he, rfl⟩ := List.mem_map.1 hw
      exact (readsW (h e he)).no32

theorem tableT_cut {n : Nat} {x : Table} (hx : TabOk n x) (hn : n ≤ 12) : Lib.trimSuffix (tableT x) [10] = leftW ++ exsT x.left ++ 10 :: (rightW ++ exsT x.right) ∧ Lib.cut (leftW ++ exsT x.left ++ 10 :: (rightW ++ exsT x.right)) [10] = (leftW ++ exsT x.left, rightW ++ exsT x.right, true) := by
  refine ⟨trim_hit _ _, cut_hit 10 _ _ ?_⟩
  intro hm
  rcases List.mem_append.1 hm with hm | hm
  · revert hm; decide
  · exact no_flat (n := n) (by decide) x.left (fun e he => (readsW (allEx_mono hn (hx.le e he))).no10) hm

theorem exsT_size (l : List Ext) (h : ∀ e, e ∈ l → exitOk 12 e) : (exsT l).length ≤ 4 * l.length := by
  induction l with
  | nil => exact Nat.le_refl _
  | cons e l ih =>
    have h1 := (readsW (h e (by simp))).small
    have h2 := ih (fun e he => h e (by simp [he]))
    unfold exsT at h2 ⊢
    rw [List.flatMap_cons, List.length_append, List.length_cons, List.length_cons]
    omega

theorem tableT_size {n : Nat} {x : Table} (hx : TabOk n x) (hn : n ≤ 12) : (tableT x).length ≤ 200 := by
  have h1 := exsT_size x.left (fun e he => allEx_mono hn (hx.le e he))
  have h2 := exsT_size x.right (fun e he => allEx_mono hn (hx.re e he))
  have := hx.l
  have := hx.r
  unfold tableT
  rw [List.length_append, List.length_append, List.length_append, List.length_cons, List.length_append]
  have e1 : leftW.length = 4 := rfl
  have e2 : rightW.length = 5 := rfl
  have e3 : ([10] : List UInt8).length = 1 := rfl
  omega

end Go.Proofs.YtbiagkbjhdidjaaDoor
