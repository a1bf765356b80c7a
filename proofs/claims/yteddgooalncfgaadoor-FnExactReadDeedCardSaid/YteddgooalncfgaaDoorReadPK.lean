/-
  Texts cut at blanks, numbers read, and what ReadDeed answers.
-/
import Derived.Lib.SplitLaws
import Derived.Lib.ItoaNum
import Derived.Lib.ParseIntB
import Derived.Lib.SlicesS
import Derived.Test.YteddgooalncfgaaDoorDeedWK
namespace Go.Proofs.YteddgooalncfgaaDoor
open Go.RowKit

theorem ix_none : ∀ (x : List UInt8), (32 : UInt8) ∉ x → Lib.index x [32] = -1
  | [], _ => rfl
  | b :: l, h => by
    have hb : (32 : UInt8) ≠ b := fun e => h (e ▸ List.mem_cons_self ..)
    have ih := ix_none l (fun hm => h (List.mem_cons_of_mem _ hm))
    have hp : ([32] : List UInt8).isPrefixOf (b :: l) = false := by
      show ((32 : UInt8) == b && _) = false
      rw [show ((32 : UInt8) == b) = false from beq_eq_false_iff_ne.2 hb]; rfl
    rw [Lib.index, if_neg (by rw [hp]; decide), ih]
    rfl

theorem ix_hit : ∀ (x r : List UInt8), (32 : UInt8) ∉ x → Lib.index (x ++ 32 :: r) [32] = (x.length : Int)
  | [], r, _ => rfl
  | b :: l, r, h => by
    have hb : (32 : UInt8) ≠ b := fun e => h (e ▸ List.mem_cons_self ..)
    have ih := ix_hit l r (fun hm => h (List.mem_cons_of_mem _ hm))
    have hp : ([32] : List UInt8).isPrefixOf (b :: (l ++ 32 :: r)) = false := by
      show ((32 : UInt8) == b && _) = false
      rw [show ((32 : UInt8) == b) = false from beq_eq_false_iff_ne.2 hb]; rfl
    rw [List.cons_append, Lib.index, if_neg (by rw [hp]; decide), ih, if_neg (by simp)]
    simp

theorem splitK_none (x : List UInt8) (h : (32 : UInt8) ∉ x) (k : Nat) : Lib.splitK [32] 0 k x = [x] := by
  cases k with
  | zero => rfl
  | succ k => rw [Lib.splitK, if_pos (by rw [ix_none x h]; rfl)]

theorem splitK_hit (x r : List UInt8) (h : (32 : UInt8) ∉ x) (k : Nat) : Lib.splitK [32] 0 (k + 1) (x ++ 32 :: r) = x :: Lib.splitK [32] 0 k r := by
  have hi := ix_hit x r h
  rw [Lib.splitK, if_neg (by rw [hi]; simp), hi]
  have e1 : (x ++ 32 :: r).take (((x.length : Int)).toNat + 0) = x := by simp
  have e2 : (x ++ 32 :: r).drop (((x.length : Int)).toNat + ([32] : List UInt8).length) = r := by
    rw [show x ++ 32 :: r = (x ++ [32]) ++ r by simp]
    exact List.drop_left' (by simp)
  rw [e1, e2]

/-- Cut at each blank. -/
def cutL : List UInt8 → List (List UInt8)
  | [] => [[]]
  | c :: l => if c = 32 then [] :: cutL l else match cutL l with
    | h :: r => (c :: h) :: r
    | [] => [[c]]

theorem cutL_ne : ∀ l, cutL l ≠ []
  | [] => by simp [cutL]
  | c :: l => by
    unfold cutL
    split
    · simp
    · split <;> simp

theorem cutL_none : ∀ (x : List UInt8), (32 : UInt8) ∉ x → cutL x = [x]
  | [], _ => rfl
  | b :: l, h => by
    have hb : b ≠ (32 : UInt8) := fun e => h (e ▸ List.mem_cons_self ..)
    rw [cutL, if_neg hb, cutL_none l (fun hm => h (List.mem_cons_of_mem _ hm))]

theorem cutL_hit : ∀ (x r : List UInt8), (32 : UInt8) ∉ x → cutL (x ++ 32 :: r) = x :: cutL r
  | [], r, _ => by simp [cutL]
  | b :: l, r, h => by
    have hb : b ≠ (32 : UInt8) := fun e => h (e ▸ List.mem_cons_self ..)
    rw [List.cons_append, cutL, if_neg hb, cutL_hit l r (fun hm => h (List.mem_cons_of_mem _ hm))]

theorem cutL_snoc : ∀ (l : List UInt8) (c : UInt8) (xs : List (List UInt8)) (y : List UInt8), cutL l = xs ++ [y] → cutL (l ++ [c]) = if c = 32 then xs ++ [y, []] else xs ++ [y ++ [c]]
  | [], c, xs, y, h => by
    have : xs = [] ∧ y = [] := by
      cases xs with
      | nil => simp [cutL] at h; exact ⟨rfl, h⟩
      | cons a xs => simp [cutL] at h
    obtain ⟨rfl, rfl⟩ := this
    by_cases hc : c = 32 <;> simp [cutL, hc]
  | b :: l, c, xs, y, h => by
    rw [List.cons_append]
    by_cases hb : b = 32
    · rw [cutL, if_pos hb] at h ⊢
      cases xs with
      | nil => simp at h; exact absurd h.2 (cutL_ne l)
      | cons a xs =>
        simp only [List.cons_append, List.cons.injEq] at h
        rw [cutL_snoc l c xs y h.2]
        split <;> simp [h.1]
    · rw [cutL, if_neg hb] at h ⊢
      cases hl : cutL l with
      | nil => exact absurd hl (cutL_ne l)
      | cons p q =>
        rw [hl] at h
        simp only at h
        cases xs with
        | nil =>
          simp only [List.nil_append, List.cons.injEq] at h
          obtain ⟨rfl, rfl⟩ := h
          rw [cutL_snoc l c [] p (by rw [hl]; rfl)]
          by_cases hc : c = 32 <;> simp [hc]
        | cons a xs =>
          simp only [List.cons_append, List.cons.injEq] at h
          obtain ⟨rfl, h2⟩ := h
          rw [cutL_snoc l c (p :: xs) y (by rw [hl, h2]; rfl)]
          by_cases hc : c = 32 <;> simp [hc]

def cutAt (t : ByteArray) : Nat → List ByteArray × Nat
  | 0 => ([], 0)
  | i + 1 => if t.data[i]?.getD 0 = 32 then ((cutAt t i).1 ++ [t.extract (cutAt t i).2 i], i + 1) else cutAt t i

def cutB (t : ByteArray) : List ByteArray := (cutAt t t.size).1 ++ [t.extract (cutAt t t.size).2 t.size]

theorem cutAt_le (t : ByteArray) : ∀ i, (cutAt t i).2 ≤ i
  | 0 => Nat.le_refl _
  | i + 1 => by
    have := cutAt_le t i
    unfold cutAt
    split
    · exact Nat.le_refl _
    · omega

theorem cutAt_list (t : ByteArray) : ∀ i, i ≤ t.size → cutL (t.data.toList.take i) = (cutAt t i).1.map (·.data.toList) ++ [(t.extract (cutAt t i).2 i).data.toList]
  | 0, _ => by simp [cutAt, cutL]
  | i + 1, h => by
    have ih := cutAt_list t i (by omega)
    have hle := cutAt_le t i
    have hl : t.data.toList.length = t.size := Array.length_toList
    have hi : i < t.data.toList.length := by omega
    have hc : t.data[i]?.getD 0 = t.data.toList[i] := by
      have : i < t.data.size := by simpa using hi
      rw [Array.getElem?_eq_getElem this]; simp
    have hsn := cutL_snoc _ (t.data.toList[i]) _ _ ih
    rw [List.take_succ_eq_append_getElem hi, hsn]
    rw [cutAt, hc]
    by_cases hb : t.data.toList[i] = 32
    · rw [if_pos hb, if_pos hb]
      have e : (t.extract (i + 1) (i + 1)).data.toList = [] := by rw [Lib.extract_data]; simp
      rw [e]
      simp
    · rw [if_neg hb, if_neg hb]
      have e : (t.extract (cutAt t i).2 (i + 1)).data.toList = (t.extract (cutAt t i).2 i).data.toList ++ [t.data.toList[i]] := by
        rw [Lib.extract_data, Lib.extract_data]
        have hd : i - (cutAt t i).2 < (t.data.toList.drop (cutAt t i).2).length := by rw [List.length_drop]; omega
        rw [show i + 1 - (cutAt t i).2 = (i - (cutAt t i).2) + 1 by omega, List.take_succ_eq_append_getElem hd]
        congr 1
        rw [List.getElem_drop]
        have : (cutAt t i).2 + (i - (cutAt t i).2) = i := by omega
        simp [this]
      rw [e]

theorem cutB_list (t : ByteArray) : (cutB t).map (·.data.toList) = cutL t.data.toList := by
  have h := cutAt_list t t.size (Nat.le_refl _)
  have e : t.data.toList.take t.size = t.data.toList := List.take_of_length_le (Nat.le_of_eq Array.length_toList)
  rw [e] at h
  rw [h]
  simp [cutB]

/-- A number of three digits at most, as the reference reads it. -/
def numL : Int → List UInt8 → Int
  | n, [] => n
  | n, c :: l => if c.toNat < 48 then -1 else if 57 < c.toNat then -1 else numL (n * 10 + ((c.toNat : Int) - 48)) l

def num3 (s : ByteArray) : Int := if s.size < 1 then -1 else if 3 < s.size then -1 else numL 0 s.data.toList

/-- A number, as the program reads it. -/
def numOf (s : ByteArray) : Int := match Lib.parseIntB 64 s.data.toList with
  | .ok v => v
  | _ => 0

def dec3 (n : Nat) : List UInt8 :=
  if n < 10 then [UInt8.ofNat (48 + n)] else if n < 100 then [UInt8.ofNat (48 + n / 10), UInt8.ofNat (48 + n % 10)] else [UInt8.ofNat (48 + n / 100), UInt8.ofNat (48 + n / 10 % 10), UInt8.ofNat (48 + n % 10)]

theorem dec3_is (n : Nat) (h : n < 1000) : Lib.decDigits n = dec3 n := by
  unfold dec3
  by_cases h1 : n < 10
  · rw [if_pos h1, Lib.decDigits, dif_pos h1]
  · rw [if_neg h1, Lib.decDigits, dif_neg h1]
    by_cases h2 : n < 100
    · rw [if_pos h2, Lib.decDigits, dif_pos (by omega)]
      rfl
    · rw [if_neg h2, Lib.decDigits, dif_neg (by omega), Lib.decDigits, dif_pos (by omega)]
      rw [show n / 10 / 10 = n / 100 by omega]
      rfl

theorem dec3_all : ((List.range 1000).all fun n => decide (numOf ⟨(dec3 n).toArray⟩ = (n : Int)) && (decide (num3 ⟨(dec3 n).toArray⟩ = (n : Int)) && !(dec3 n).contains 32)) = true := by decide +kernel

theorem dec_reads (n : Nat) (h : n < 1000) : numOf ⟨(Lib.decDigits n).toArray⟩ = (n : Int) ∧ num3 ⟨(Lib.decDigits n).toArray⟩ = (n : Int) ∧ (32 : UInt8) ∉ Lib.decDigits n := by
  have := List.all_eq_true.1 dec3_all n (List.mem_range.2 h)
  rw [dec3_is n h]
  simpa using this

theorem bytes_inj : ∀ (l l' : List ByteArray), l.map (·.data.toList) = l'.map (·.data.toList) → l = l'
  | [], [], _ => rfl
  | [], _ :: _, h => by simp at h
  | _ :: _, [], h => by simp at h
  | a :: l, b :: l', h => by
    simp only [List.map_cons, List.cons.injEq] at h
    obtain ⟨h1, h2⟩ := h
    have e : a = b := by
      cases a; cases b
      congr 1
      exact Array.toList_inj.1 h1
    rw [e, bytes_inj l l' h2]

theorem word_no32 (k : Nat) : (32 : UInt8) ∉ (deedWord k).data.toList := by
  by_cases h : k < 9
  · have : k = 0 ∨ k = 1 ∨ k = 2 ∨ k = 3 ∨ k = 4 ∨ k = 5 ∨ k = 6 ∨ k = 7 ∨ k = 8 := by omega
    rcases this with rfl | rfl | rfl | rfl | rfl | rfl | rfl | rfl | rfl <;> decide
  · unfold deedWord
    rw [List.getElem?_eq_none (by simp [deedWs]; omega)]
    simp

theorem decB_list (n : Nat) : (decB n).data.toList = Lib.decDigits n := by simp [decB]

/-- What a valid deed holds. -/
theorem deed_parts (d : Deed) (hv : validDeed d = true) : ∃ K a b : Nat, d = ⟨K, a, b⟩ ∧ 1 ≤ K ∧ K ≤ 8 ∧ a ≤ 999 ∧ b ≤ 999 ∧ (hasTwo d.kind = false → b = 0) := by
  unfold validDeed at hv
  rw [Bool.and_eq_true, Bool.and_eq_true, Bool.and_eq_true, Bool.or_eq_true, decide_eq_true_eq] at hv
  have v1 := within_true.1 hv.1
  have v2 := within_true.1 hv.2.1
  have v3 := within_true.1 hv.2.2.1
  have v4 := hv.2.2.2
  obtain ⟨k, a, b⟩ := d
  simp only at v1 v2 v3 v4 ⊢
  refine ⟨k.toNat, a.toNat, b.toNat, ?_, by omega, by omega, by omega, by omega, ?_⟩
  · rw [show (k.toNat : Int) = k by omega, show (a.toNat : Int) = a by omega, show (b.toNat : Int) = b by omega]
  · intro h2
    rcases v4 with h | h
    · rw [h2] at h; cases h
    · omega

def deedPieces (K a b : Nat) : List ByteArray := if hasTwo (K : Int) then [deedWord K, decB a, decB b] else [deedWord K, decB a]

theorem deedText_list (K a b : Nat) (hv : validDeed ⟨K, a, b⟩ = true) : (deedText ⟨K, a, b⟩).data.toList = if hasTwo (K : Int) then (deedWord K).data.toList ++ 32 :: (Lib.decDigits a ++ 32 :: Lib.decDigits b) else (deedWord K).data.toList ++ 32 :: Lib.decDigits a := by
  unfold deedText
  rw [hv, if_pos rfl]
  show ((if hasTwo (K : Int) then deedWord K ++ numsB [a, b] else deedWord K ++ numsB [a]).data.toList) = _
  cases hasTwo (K : Int) <;> simp [numsB, decB_list]

theorem deed_cut (K a b : Nat) (hv : validDeed ⟨K, a, b⟩ = true) (ha : a ≤ 999) (hb : b ≤ 999) : cutB (deedText ⟨K, a, b⟩) = deedPieces K a b := by
  apply bytes_inj
  rw [cutB_list, deedText_list K a b hv]
  have n1 := word_no32 K
  have n2 := (dec_reads a (by omega)).2.2
  have n3 := (dec_reads b (by omega)).2.2
  unfold deedPieces
  cases hasTwo (K : Int)
  · rw [if_neg (by decide), if_neg (by decide), cutL_hit _ _ n1, cutL_none _ n2]
    simp [decB_list]
  · rw [if_pos rfl, if_pos rfl, cutL_hit _ _ n1, cutL_hit _ _ n2, cutL_none _ n3]
    simp [decB_list]

/-- The library's Split at blanks. -/
def splitW (t : ByteArray) : List ByteArray := Lib.splitB ⟨#[32]⟩ 0 (Lib.countB t ⟨#[32]⟩) t

theorem deed_split (K a b : Nat) (hv : validDeed ⟨K, a, b⟩ = true) (ha : a ≤ 999) (hb : b ≤ 999) : splitW (deedText ⟨K, a, b⟩) = deedPieces K a b := by
  apply bytes_inj
  unfold splitW Lib.countB
  rw [Lib.splitB_data, deedText_list K a b hv]
  have n1 := word_no32 K
  have n2 := (dec_reads a (by omega)).2.2
  have n3 := (dec_reads b (by omega)).2.2
  have c1 : (deedWord K).data.toList.count 32 = 0 := List.count_eq_zero.2 n1
  have c2 : (Lib.decDigits a).count 32 = 0 := List.count_eq_zero.2 n2
  have c3 : (Lib.decDigits b).count 32 = 0 := List.count_eq_zero.2 n3
  unfold deedPieces
  cases hasTwo (K : Int)
  · rw [if_neg (by decide), if_neg (by decide)]
    show Lib.splitK [32] 0 (Lib.count _ [32]) _ = _
    rw [Lib.count_one, List.count_append, List.count_cons_self, c1, c2, Nat.zero_add, splitK_hit _ _ n1, splitK_none _ n2]
    simp [decB_list]
  · rw [if_pos rfl, if_pos rfl]
    show Lib.splitK [32] 0 (Lib.count _ [32]) _ = _
    rw [Lib.count_one, List.count_append, List.count_cons_self, List.count_append, List.count_cons_self, c1, c2, c3, Nat.zero_add, Nat.zero_add, splitK_hit _ _ n1, splitK_hit _ _ n2, splitK_none _ n3]
    simp [decB_list]

theorem word_index : ∀ K, 1 ≤ K → K ≤ 8 → Lib.idxOfS deedWs (deedWord K) = (K : Int) := by
  intro K h1 h8
  have : K = 1 ∨ K = 2 ∨ K = 3 ∨ K = 4 ∨ K = 5 ∨ K = 6 ∨ K = 7 ∨ K = 8 := by omega
  rcases this with rfl | rfl | rfl | rfl | rfl | rfl | rfl | rfl <;> decide +kernel

/-- The words that the program reads. -/
def wordsP (t : ByteArray) : List ByteArray := splitW t ++ [⟨#[]⟩, ⟨#[]⟩]

/-- The deed that the program reads. -/
def parseDeed (t : ByteArray) : Deed := ⟨Lib.idxOfS deedWs ((wordsP t).getD 0 ByteArray.empty), numOf ((wordsP t).getD 1 ByteArray.empty), numOf ((wordsP t).getD 2 ByteArray.empty)⟩

theorem numOf_dec (n : Nat) (h : n ≤ 999) : numOf (decB n) = (n : Int) := (dec_reads n (by omega)).1
theorem num3_dec (n : Nat) (h : n ≤ 999) : num3 (decB n) = (n : Int) := (dec_reads n (by omega)).2.1
theorem numOf_none : numOf ⟨#[]⟩ = 0 := by decide +kernel

theorem parse_deed (d : Deed) (hv : validDeed d = true) : parseDeed (deedText d) = d := by
  obtain ⟨K, a, b, rfl, h1, h8, ha, hb, h0⟩ := deed_parts d hv
  unfold parseDeed wordsP
  rw [deed_split K a b hv ha hb]
  unfold deedPieces
  cases h2 : hasTwo (K : Int)
  · rw [if_neg (by decide)]
    show (⟨Lib.idxOfS deedWs (deedWord K), numOf (decB a), numOf ⟨#[]⟩⟩ : Deed) = _
    rw [word_index K h1 h8, numOf_dec a ha, numOf_none, h0 h2]
    rfl
  · rw [if_pos rfl]
    show (⟨Lib.idxOfS deedWs (deedWord K), numOf (decB a), numOf (decB b)⟩ : Deed) = _
    rw [word_index K h1 h8, numOf_dec a ha, numOf_dec b hb]

/-- What ReadDeed answers. -/
def readDeed (t : ByteArray) : Deed × Int := if validDeed (parseDeed t) && decide (deedText (parseDeed t) = t) then (parseDeed t, 0) else (default, 5)

/-- The words that the reference reads. -/
def wordsS (t : ByteArray) : List ByteArray := cutB t ++ [⟨#[]⟩]

/-- The deed of a kind that the reference tries. -/
def deedAt (t : ByteArray) (k : Nat) : Deed := ⟨k, num3 ((wordsS t).getD 1 ByteArray.empty), if hasTwo (k : Int) && decide (2 < (wordsS t).length) then num3 ((wordsS t).getD 2 ByteArray.empty) else 0⟩

theorem deedText_invalid (d : Deed) (h : validDeed d = false) : deedText d = ⟨#[]⟩ := by unfold deedText; rw [h]; rfl

theorem read_hit (t : ByteArray) (k : Nat) (h1 : 1 ≤ k) (h8 : k ≤ 8) (h0 : (wordsS t).getD 0 ByteArray.empty = deedWord k) (ht : deedText (deedAt t k) = t) : readDeed t = (deedAt t k, 0) := by
  cases hv : validDeed (deedAt t k)
  · exfalso
    rw [deedText_invalid _ hv] at ht
    subst ht
    have e : (wordsS ⟨#[]⟩).getD 0 ByteArray.empty = ⟨#[]⟩ := by decide +kernel
    rw [e] at h0
    have : k = 1 ∨ k = 2 ∨ k = 3 ∨ k = 4 ∨ k = 5 ∨ k = 6 ∨ k = 7 ∨ k = 8 := by omega
    rcases this with rfl | rfl | rfl | rfl | rfl | rfl | rfl | rfl <;> exact absurd h0 (by decide +kernel)
  · have hp := parse_deed _ hv
    rw [ht] at hp
    unfold readDeed
    rw [hp, hv, ht, decide_eq_true rfl]
    rfl

theorem read_at (t : ByteArray) (hv : validDeed (parseDeed t) = true) (ht : deedText (parseDeed t) = t) : ∃ k : Nat, 1 ≤ k ∧ k ≤ 8 ∧ (wordsS t).getD 0 ByteArray.empty = deedWord k ∧ deedText (deedAt t k) = t := by
  obtain ⟨K, a, b, hp, h1, h8, ha, hb, h0⟩ := deed_parts _ hv
  rw [hp] at hv ht h0
  have hc := deed_cut K a b hv ha hb
  rw [ht] at hc
  refine ⟨K, h1, h8, ?_, ?_⟩
  · unfold wordsS
    rw [hc]
    unfold deedPieces
    cases hasTwo (K : Int) <;> rfl
  · have : deedAt t K = ⟨K, a, b⟩ := by
      unfold deedAt wordsS
      rw [hc]
      unfold deedPieces
      cases h2 : hasTwo (K : Int)
      · rw [if_neg (by decide)]
        show (⟨(K : Int), num3 (decB a), 0⟩ : Deed) = _
        rw [num3_dec a ha, h0 h2]
        rfl
      · rw [if_pos rfl]
        show (⟨(K : Int), num3 (decB a), num3 (decB b)⟩ : Deed) = _
        rw [num3_dec a ha, num3_dec b hb]
    rw [this]
    exact ht

theorem read_miss (t : ByteArray) (h : ∀ k, 1 ≤ k → k ≤ 8 → (wordsS t).getD 0 ByteArray.empty = deedWord k → ¬ deedText (deedAt t k) = t) : readDeed t = (default, 5) := by
  unfold readDeed
  split
  · rename_i hc
    rw [Bool.and_eq_true, decide_eq_true_eq] at hc
    obtain ⟨k, h1, h8, h0, ht⟩ := read_at t hc.1 hc.2
    exact absurd ht (h k h1 h8 h0)
  · rfl

theorem deedText_size (d : Deed) : (deedText d).size ≤ 40 := by
  cases hv : validDeed d
  · rw [deedText_invalid d hv]; decide
  · obtain ⟨K, a, b, rfl, h1, h8, ha, hb, h0⟩ := deed_parts d hv
    have e := deedText_list K a b hv
    have hl : (deedText ⟨K, a, b⟩).size = (deedText ⟨K, a, b⟩).data.toList.length := Array.length_toList.symm
    have hw : (deedWord K).data.toList.length ≤ 7 := by rw [Array.length_toList]; exact deedWord_size K
    have l1 : (Lib.decDigits a).length ≤ 3 := by rw [dec3_is a (by omega)]; unfold dec3; split <;> (try split) <;> simp
    have l2 : (Lib.decDigits b).length ≤ 3 := by rw [dec3_is b (by omega)]; unfold dec3; split <;> (try split) <;> simp
    rw [hl, e]
    split <;> (rw [List.length_append, List.length_cons]; try rw [List.length_append, List.length_cons]) <;> omega

theorem read_long (t : ByteArray) (h : 40 < t.size) : readDeed t = (default, 5) := by
  unfold readDeed
  split
  · rename_i hc
    rw [Bool.and_eq_true, decide_eq_true_eq] at hc
    have := deedText_size (parseDeed t)
    rw [hc.2] at this
    omega
  · rfl

end Go.Proofs.YteddgooalncfgaaDoor
