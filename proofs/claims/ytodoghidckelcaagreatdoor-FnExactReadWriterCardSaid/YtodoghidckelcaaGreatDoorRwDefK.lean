/-
  Turners and writers read from texts, in plain words.
-/
import Derived.Lib.ParseIntB
import Derived.Test.YtodoghidckelcaaGreatDoorPackB
import Derived.Test.YtodoghidckelcaaGreatDoorTextPK
namespace Go.Proofs.YtodoghidckelcaaGreatDoor
open Go.RowKit

def splitL (c : UInt8) : List UInt8 → List (List UInt8)
  | [] => [[]]
  | b :: r => if b = c then [] :: splitL c r else match splitL c r with
    | x :: ys => (b :: x) :: ys
    | [] => [[b]]

theorem splitL_ne (c : UInt8) : ∀ l, splitL c l ≠ []
  | [] => by simp [splitL]
  | b :: r => by
    unfold splitL
    split
    · simp
    · split <;> simp

theorem splitL_join (c : UInt8) : ∀ l, joinC c (splitL c l) = l
  | [] => rfl
  | b :: r => by
    have ih := splitL_join c r
    have hne := splitL_ne c r
    unfold splitL
    by_cases hb : b = c
    · rw [if_pos hb, joinC_cons c [] _ hne, ih, hb]; rfl
    · rw [if_neg hb]
      cases hs : splitL c r with
      | nil => exact absurd hs hne
      | cons x ys =>
        rw [hs] at ih
        simp only
        cases ys with
        | nil => simp only [joinC] at ih ⊢; rw [ih]
        | cons y ys =>
          rw [joinC_cons c x (y :: ys) (by simp)] at ih
          rw [joinC_cons c (b :: x) (y :: ys) (by simp), List.cons_append, ih]

theorem splitL_free (c : UInt8) : ∀ l x, x ∈ splitL c l → c ∉ x
  | [], x, h => by simp [splitL] at h; subst h; simp
  | b :: r, x, h => by
    have ih := splitL_free c r
    unfold splitL at h
    by_cases hb : b = c
    · rw [if_pos hb] at h
      rcases List.mem_cons.1 h with rfl | h
      · simp
      · exact ih x h
    · rw [if_neg hb] at h
      cases hs : splitL c r with
      | nil => exact absurd hs (splitL_ne c r)
      | cons y ys =>
        rw [hs] at h ih
        simp only at h
        rcases List.mem_cons.1 h with rfl | h
        · intro hc
          rcases List.mem_cons.1 hc with e | hc
          · exact hb e.symm
          · exact ih y (by simp) hc
        · exact ih x (by simp [h])

theorem splitC_is (c : UInt8) (l : List UInt8) : splitC c (mkB l) = (splitL c l).map mkB := by
  have h := splitC_join c (splitL c l) (splitL_ne c l) (splitL_free c l)
  rwa [splitL_join] at h

theorem splitC_count (c : UInt8) (l : List UInt8) : Lib.countB (mkB l) ⟨#[c]⟩ + 1 = (splitL c l).length := by
  have h : (splitC c (mkB l)).length = Lib.countB (mkB l) ⟨#[c]⟩ + 1 := Lib.splitB_all ⟨#[c]⟩ (by show 1 ≤ _; exact Nat.le_refl _) 0 _ (mkB l) rfl
  rw [← h, splitC_is, List.length_map]

theorem map_mkB_inj : ∀ {a b : List (List UInt8)}, a.map mkB = b.map mkB → a = b
  | [], [], _ => rfl
  | [], _ :: _, h => by simp at h
  | _ :: _, [], h => by simp at h
  | x :: a, y :: b, h => by
    rw [List.map_cons, List.map_cons] at h
    injection h with h1 h2
    rw [mkB_inj h1, map_mkB_inj h2]

theorem splitL_of (c : UInt8) (ws : List (List UInt8)) (h0 : ws ≠ []) (h : ∀ w, w ∈ ws → c ∉ w) : splitL c (joinC c ws) = ws :=
  map_mkB_inj (by rw [← splitC_is, splitC_join c ws h0 h])

theorem splitL_len (c : UInt8) : ∀ l, (splitL c l).length ≤ l.length + 1
  | [] => by simp [splitL]
  | b :: r => by
    have ih := splitL_len c r
    unfold splitL
    by_cases hb : b = c
    · rw [if_pos hb, List.length_cons, List.length_cons]; omega
    · rw [if_neg hb]
      cases hs : splitL c r with
      | nil => exact absurd hs (splitL_ne c r)
      | cons y ys => rw [hs, List.length_cons] at ih; simp only [List.length_cons]; omega

theorem splitL_le (c : UInt8) : ∀ l x, x ∈ splitL c l → x.length ≤ l.length
  | [], x, h => by simp [splitL] at h; subst h; simp
  | b :: r, x, h => by
    have ih := splitL_le c r
    unfold splitL at h
    by_cases hb : b = c
    · rw [if_pos hb] at h
      rcases List.mem_cons.1 h with rfl | h
      · simp
      · have := ih x h; rw [List.length_cons]; omega
    · rw [if_neg hb] at h
      cases hs : splitL c r with
      | nil => exact absurd hs (splitL_ne c r)
      | cons y ys =>
        rw [hs] at h ih
        simp only at h
        rcases List.mem_cons.1 h with rfl | h
        · have := ih y (by simp); simp only [List.length_cons]; omega
        · have := ih x (by simp [h]); rw [List.length_cons]; omega

/-- A number, as the program reads it. -/
def numI (w : List UInt8) : Int := match Lib.parseIntB 64 w with
  | .ok v => v
  | _ => 0

theorem parse_range (w : List UInt8) (v : Int) (h : Lib.parseIntB 64 w = .ok v) : -9223372036854775808 ≤ v ∧ v ≤ 9223372036854775807 := by
  unfold Lib.parseIntB at h
  split at h
  · cases h
  · rename_i c r
    simp only at h
    split at h
    · cases h
    · cases h
    · rename_i u hu
      split at h
      · cases h
      · rename_i h1
        split at h
        · cases h
        · rename_i h2
          injection h with h
          rw [← h]
          split
          · rename_i hn
            have : ¬ 2 ^ (64 - 1) < u := fun e => h2 ⟨hn, e⟩
            omega
          · rename_i hn
            have : ¬ 2 ^ (64 - 1) ≤ u := fun e => h1 ⟨hn, e⟩
            omega

theorem numI_range (w : List UInt8) : -9223372036854775808 ≤ numI w ∧ numI w ≤ 9223372036854775807 := by
  unfold numI
  split
  · rename_i v h; exact parse_range w v h
  · omega

def yesL : List UInt8 := [121, 101, 115]
def noL : List UInt8 := [110, 111]
def dirI (w : List UInt8) : Int := Lib.index [60, 61, 62] (w.drop (w.length - 1))
def readMv (w : List UInt8) : Move := if w = yesL then ⟨-1, 0⟩ else if w = noL then ⟨-2, 0⟩ else if w = [] then ⟨0, 0⟩ else ⟨numI (w.take (w.length - 1)), dirI w - 1⟩

def linesT (s : List UInt8) : List (List UInt8) := splitL 10 (Lib.trimSuffix s [10])
def padT (k : Nat) (l : List (List UInt8)) : List (List UInt8) := l ++ List.replicate (k - l.length) []
def headT (k : Nat) (s : List UInt8) : List (List UInt8) := padT k (splitL 32 ((linesT s).headD []))
def rowT (line : List UInt8) : List Move := ((splitL 32 line).drop 1).map readMv
def parseT (s : List UInt8) : Turner := ⟨numI ((headT 4 s).getD 1 []), numI ((headT 4 s).getD 3 []), ((linesT s).drop 1).map rowT⟩
def noTurn : Turner := ⟨0, 0, []⟩
def noWrit : Writer := ⟨noTurn, []⟩
def readT (s : List UInt8) : Turner × Int := if 20000 < s.length then (noTurn, 2) else if validTurn (parseT s) = true ∧ turnL (parseT s) = s then (parseT s, 0) else (noTurn, 5)

def outW (w : List UInt8) : ByteArray := if w = [45] then mkB [] else mkB w
def orowT (line : List UInt8) : List ByteArray := ((splitL 32 line).drop 1).map outW
def sepO : List UInt8 := [10, 111, 117, 116]
def outO : List UInt8 := [111, 117, 116]
def olinesT (s : List UInt8) : List (List UInt8) := splitL 10 (Lib.trimSuffix (outO ++ (Lib.cut s sepO).2.1) [10])
def parseW (s : List UInt8) : Writer := ⟨(readT ((Lib.cut s sepO).1 ++ [10])).1, (olinesT s).map orowT⟩
def readW (s : List UInt8) : Writer × Int := if 20000 < s.length then (noWrit, 2) else if (Lib.cut s sepO).2.2 = false then (noWrit, 5) else if writerOk (parseW s) = true ∧ writL (parseW s) = s then (parseW s, 0) else (noWrit, 5)

/-! ## What is written is read -/

def dec2 (n : Nat) : List UInt8 := if n < 10 then [UInt8.ofNat (48 + n)] else [UInt8.ofNat (48 + n / 10), UInt8.ofNat (48 + n % 10)]

theorem dec2_is (n : Nat) (h : n < 100) : Lib.decDigits n = dec2 n := by
  unfold dec2
  by_cases h1 : n < 10
  · rw [if_pos h1, Lib.decDigits, dif_pos h1]
  · rw [if_neg h1, Lib.decDigits, dif_neg h1, Lib.decDigits, dif_pos (by omega)]
    rfl

theorem dec2_all : ((List.range 13).all fun n => decide (numI (dec2 n) = (n : Int)) && (!(dec2 n).contains 32 && !(dec2 n).contains 10)) = true := by decide +kernel

theorem dec_reads (n : Nat) (h : n < 13) : numI (Lib.decDigits n) = (n : Int) ∧ (32 : UInt8) ∉ Lib.decDigits n ∧ (10 : UInt8) ∉ Lib.decDigits n := by
  have := List.all_eq_true.1 dec2_all n (List.mem_range.2 h)
  rw [dec2_is n (by omega)]
  simpa using this

/-- What a right move is. -/
theorem mv_cases {m : Move} {n l k : Int} (h : moveOk m n l k = true) (hn : n ≤ 12) : m = ⟨-1, 0⟩ ∨ m = ⟨-2, 0⟩ ∨ ∃ j : Nat, j < 12 ∧ (m = ⟨(j : Int), -1⟩ ∨ m = ⟨(j : Int), 0⟩ ∨ m = ⟨(j : Int), 1⟩) := by
  obtain ⟨t, d⟩ := m
  unfold moveOk at h
  rw [Bool.or_eq_true] at h
  rcases h with h | h
  · unfold isStopB at h
    rw [Bool.and_eq_true, Bool.or_eq_true, beq_iff_eq, beq_iff_eq, beq_iff_eq] at h
    obtain ⟨h1, h2⟩ := h
    simp only at h1 h2
    subst h2
    rcases h1 with rfl | rfl
    · exact .inl rfl
    · exact .inr (.inl rfl)
  · rw [Bool.and_eq_true, Bool.and_eq_true, Bool.and_eq_true] at h
    have h1 := within_true.1 h.1.1.1
    have h2 := within_true.1 h.1.1.2
    simp only at h1 h2
    refine .inr (.inr ⟨t.toNat, by omega, ?_⟩)
    have ht : (t.toNat : Int) = t := by omega
    rw [ht]
    have : d = -1 ∨ d = 0 ∨ d = 1 := by omega
    rcases this with rfl | rfl | rfl
    · exact .inl rfl
    · exact .inr (.inl rfl)
    · exact .inr (.inr rfl)

def mvD (j : Nat) (c : UInt8) : List UInt8 := dec2 j ++ [c]
def mvGood (j : Nat) (d : Int) (c : UInt8) : Bool := decide (readMv (mvD j c) = ⟨(j : Int), d⟩) && (!(mvD j c).contains 32 && !(mvD j c).contains 10)
theorem mvGood_is {j : Nat} {d : Int} {c : UInt8} (h : mvGood j d c = true) : readMv (mvD j c) = ⟨(j : Int), d⟩ ∧ (32 : UInt8) ∉ mvD j c ∧ (10 : UInt8) ∉ mvD j c := by
  unfold mvGood at h
  rw [Bool.and_eq_true, Bool.and_eq_true, decide_eq_true_eq] at h
  refine ⟨h.1, ?_, ?_⟩
  · have := h.2.1; simpa using this
  · have := h.2.2; simpa using this
theorem mv_all : ((List.range 12).all fun j => mvGood j (-1) 60 && (mvGood j 0 61 && mvGood j 1 62)) = true := by decide +kernel

theorem moveL_reads {m : Move} {n l k : Int} (h : moveOk m n l k = true) (hn : n ≤ 12) : readMv (moveL m) = m ∧ (32 : UInt8) ∉ moveL m ∧ (10 : UInt8) ∉ moveL m := by
  rcases mv_cases h hn with rfl | rfl | ⟨j, hj, rfl | rfl | rfl⟩
  · decide
  · decide
  all_goals
    have h1 := List.all_eq_true.1 mv_all j (List.mem_range.2 hj)
    rw [Bool.and_eq_true, Bool.and_eq_true] at h1
    have e1 : ¬ ((j : Int) = -1) := by omega
    have e2 : ¬ ((j : Int) = -2) := by omega
    unfold moveL
    rw [if_neg e1, if_neg e2, Int.toNat_natCast, dec2_is j (by omega)]
  · exact mvGood_is h1.1
  · exact mvGood_is h1.2.1
  · exact mvGood_is h1.2.2

theorem lines_join (c : UInt8) : ∀ (x : List UInt8) (ls : List (List UInt8)), (x :: ls).flatMap (fun l => l ++ [c]) = joinC c (x :: ls) ++ [c]
  | x, [] => by simp [joinC]
  | x, y :: ls => by
    rw [List.flatMap_cons, lines_join c y ls, joinC_cons c x (y :: ls) (by simp)]
    simp

end Go.Proofs.YtodoghidckelcaaGreatDoor
