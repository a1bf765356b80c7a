/-
  GreatestOrder: plain facts of the tables. No program is named here.
-/
import Derived.Test.YtaedgicglddihaaOrdAll
import Derived.Test.YtaedgicglddihaaPut
namespace Go.Proofs.Ytaedgicglddihaa

abbrev OEnt := Nat × List Nat
def oAt (T : OTab) (i : Nat) : OEnt := T[i]?.getD (0, [])
def oList (l : List Nat) : List Int := l.map fun n : Nat => (n : Int)
def oBest (T : OTab) : List Int := T.map fun e : Nat × List Nat => (e.1 : Int)
def oParts (T : OTab) : List (List Int) := T.map fun e : Nat × List Nat => oList e.2

theorem oAt_set (T : OTab) (n i : Nat) (e : OEnt) (hn : n < T.length) : oAt (T.set n e) i = if n = i then e else oAt T i := by
  unfold oAt
  by_cases h : n = i
  · subst h; simp [hn]
  · rw [List.getElem?_set_ne h, if_neg h]

theorem oBest_at (T : OTab) (i : Nat) : (oBest T)[i]?.getD 0 = ((oAt T i).1 : Int) := by
  unfold oBest oAt
  rw [List.getElem?_map]
  cases T[i]? <;> rfl
theorem oParts_at (T : OTab) (i : Nat) : (oParts T)[i]?.getD [] = oList (oAt T i).2 := by
  unfold oParts oAt
  rw [List.getElem?_map]
  cases T[i]? <;> rfl
theorem oParts_get (T : OTab) (i : Nat) (h : i < T.length) : (oParts T)[i]? = some (oList (oAt T i).2) := by
  unfold oParts oAt
  rw [List.getElem?_map, List.getElem?_eq_getElem h]
  rfl
theorem oBest_set (T : OTab) (n : Nat) (e : OEnt) : oBest (T.set n e) = (oBest T).set n e.1 := by unfold oBest; rw [List.map_set]
theorem oParts_set (T : OTab) (n : Nat) (e : OEnt) : oParts (T.set n e) = (oParts T).set n (oList e.2) := by unfold oParts; rw [List.map_set]
@[simp] theorem oBest_len (T : OTab) : (oBest T).length = T.length := by simp [oBest]
@[simp] theorem oParts_len (T : OTab) : (oParts T).length = T.length := by simp [oParts]
@[simp] theorem oList_len (l : List Nat) : (oList l).length = l.length := by simp [oList]

/-- The numbers from p up to s. -/
def upTo (s p : Nat) : List Nat := (List.range (s + 1 - p)).map (· + p)
theorem upTo_nil {s p : Nat} (h : s < p) : upTo s p = [] := by
  unfold upTo
  rw [show s + 1 - p = 0 from by omega]
  rfl
theorem upTo_cons {s p : Nat} (h : p ≤ s) : upTo s p = p :: upTo s (p + 1) := by
  unfold upTo
  rw [show s + 1 - p = (s + 1 - (p + 1)) + 1 from by omega, List.range_succ_eq_map, List.map_cons, List.map_map]
  simp only [Nat.zero_add, List.cons.injEq, true_and]
  apply List.map_congr_left
  intro a _
  simp only [Function.comp]
  omega
theorem upTo_snoc {s p : Nat} (h : p ≤ s + 1) : upTo (s + 1) p = upTo s p ++ [s + 1] := by
  unfold upTo
  rw [show s + 1 + 1 - p = (s + 1 - p) + 1 from by omega, List.range_succ, List.map_append]
  simp
  omega

theorem upTo_last {n p : Nat} (h : p ≤ n) (h1 : 1 ≤ n) : (upTo n p).reverse = n :: (upTo (n - 1) p).reverse := by
  obtain ⟨m, rfl⟩ : ∃ m, n = m + 1 := ⟨n - 1, by omega⟩
  rw [upTo_snoc h, List.reverse_append]
  rfl

theorem powers_nil {p b f q : Nat} (h : b < q) : ordPowers p b f q = [] := by
  cases f with
  | zero => rfl
  | succ f => rw [ordPowers, if_neg (by omega)]
theorem powers_cons {p b f q : Nat} (hp : 2 ≤ p) (hb : b ≤ 60) (hf : 64 ≤ q * 2 ^ f) (h : q ≤ b) : ∃ g, ordPowers p b f q = q :: ordPowers p b g (q * p) ∧ 64 ≤ q * p * 2 ^ g := by
  cases f with
  | zero => omega
  | succ f =>
    refine ⟨f, by rw [ordPowers, if_pos h], ?_⟩
    rw [Nat.pow_succ] at hf
    have h1 : q * 2 * 2 ^ f ≤ q * p * 2 ^ f := Nat.mul_le_mul_right _ (Nat.mul_le_mul_left _ hp)
    have h2 : q * (2 ^ f * 2) = q * 2 * 2 ^ f := by rw [Nat.mul_comm (2 ^ f) 2, Nat.mul_assoc]
    omega

/-- Rising numbers. -/
def Rises (l : List Nat) : Prop := l.Pairwise (· < ·)

theorem putGo_true (n : Int) (l : List Int) : putGo n true l = l := by
  induction l with
  | nil => rfl
  | cons x l ih => rw [putGo, ih]

theorem filter_none {p : Nat → Bool} {l : List Nat} (h : ∀ x, x ∈ l → p x = false) : l.filter p = [] := by
  rw [List.filter_eq_nil_iff]
  intro x hx
  rw [h x hx]
  simp
theorem filter_all {p : Nat → Bool} {l : List Nat} (h : ∀ x, x ∈ l → p x = true) : l.filter p = l := by
  rw [List.filter_eq_self]
  exact h

theorem putGo_put (n : Nat) (l : List Nat) (hr : Rises l) : putGo n false (oList l) = oList (ordPut l n) := by
  induction l with
  | nil => rfl
  | cons x l ih =>
    obtain ⟨hx, hl⟩ := List.pairwise_cons.1 hr
    show putGo n false ((x : Int) :: oList l) = _
    rw [putGo]
    by_cases h1 : n ≤ x
    · rw [if_pos (by omega), putGo_true]
      have e1 : (x :: l).filter (fun y => decide (y < n)) = [] := filter_none fun y hy => by
        rcases List.mem_cons.1 hy with rfl | hy
        · simpa using h1
        · have := hx y hy; simp; omega
      unfold ordPut
      rw [e1]
      by_cases h2 : n < x
      · rw [if_pos (by omega)]
        have e2 : (x :: l).filter (fun y => decide (n < y)) = x :: l := filter_all fun y hy => by
          rcases List.mem_cons.1 hy with rfl | hy
          · simpa using h2
          · have := hx y hy; simp; omega
        rw [e2]; rfl
      · rw [if_neg (by omega)]
        obtain rfl : n = x := by omega
        have e2 : (n :: l).filter (fun y => decide (n < y)) = l := by
          rw [List.filter_cons_of_neg (by simp)]
          exact filter_all fun y hy => by simpa using hx y hy
        rw [e2]; rfl
    · rw [if_neg (by omega), ih hl]
      unfold ordPut
      rw [List.filter_cons_of_pos (by simp; omega), List.filter_cons_of_neg (by simp; omega)]
      rfl

theorem rises_put {l : List Nat} (n : Nat) (hr : Rises l) : Rises (ordPut l n) := by
  unfold ordPut Rises
  rw [List.append_assoc, List.pairwise_append]
  refine ⟨hr.filter _, ?_, ?_⟩
  · rw [List.singleton_append, List.pairwise_cons]
    exact ⟨fun x hx => by simpa using (List.mem_filter.1 hx).2, hr.filter _⟩
  · intro a ha b hb
    have h1 : a < n := by simpa using (List.mem_filter.1 ha).2
    rcases List.mem_append.1 hb with h | h
    · rw [List.mem_singleton.1 h]; exact h1
    · have : n < b := by simpa using (List.mem_filter.1 h).2
      omega

theorem put_len (l : List Nat) (n : Nat) : (ordPut l n).length ≤ l.length + 1 := by
  unfold ordPut
  rw [List.length_append, List.length_append]
  have : (l.filter fun x => decide (x < n)).length + (l.filter fun x => decide (n < x)).length ≤ l.length := by
    induction l with
    | nil => simp
    | cons x l ih =>
      rw [List.filter_cons, List.filter_cons]
      by_cases h1 : x < n
      · simp [h1, show ¬ n < x from by omega]; omega
      · by_cases h2 : n < x
        · simp [h1, h2]; omega
        · simp [h1, h2]; omega
  simp
  omega

/-- What holds of a table for a sum. -/
structure TabOk (s : Nat) (T : OTab) : Prop where
  len : T.length = s + 1
  pos : ∀ i, i ≤ s → 1 ≤ (oAt T i).1
  val : ∀ i, i ≤ s → (oAt T i).1 ≤ 2 ^ i
  parts : ∀ i, i ≤ s → (oAt T i).2.length ≤ i
  small : ∀ i, i ≤ s → ∀ x, x ∈ (oAt T i).2 → x ≤ 60

theorem TabOk.start (s : Nat) : TabOk s (List.replicate (s + 1) (1, [])) := by
  have h : ∀ i, i ≤ s → oAt (List.replicate (s + 1) (1, [])) i = (1, []) := fun i hi => by unfold oAt; rw [List.getElem?_replicate, if_pos (by omega)]; rfl
  refine ⟨by simp, fun i hi => by rw [h i hi]; exact Nat.le_refl _, fun i hi => by rw [h i hi]; exact Nat.one_le_two_pow, fun i hi => by rw [h i hi]; simp, fun i hi => by rw [h i hi]; simp⟩

theorem TabOk.set {s : Nat} {T : OTab} (h : TabOk s T) {n : Nat} (hn : n ≤ s) {e : OEnt} (h1 : 1 ≤ e.1) (h2 : e.1 ≤ 2 ^ n) (h3 : e.2.length ≤ n) (h4 : ∀ x, x ∈ e.2 → x ≤ 60) : TabOk s (T.set n e) := by
  have hl := h.len
  refine ⟨by simpa using h.len, fun i hi => ?_, fun i hi => ?_, fun i hi => ?_, fun i hi => ?_⟩ <;> rw [oAt_set T n i e (by omega)] <;> split
  all_goals first | (rename_i hh; subst hh; assumption) | exact h.pos i hi | exact h.val i hi | exact h.parts i hi | exact h.small i hi

theorem lt_two (k : Nat) : k < 2 ^ k := Nat.lt_two_pow_self

theorem val_mul {a d k n : Nat} (h : a ≤ 2 ^ d) (hd : d + k = n) : a * k ≤ 2 ^ n := by
  have := Nat.mul_le_mul h (Nat.le_of_lt (lt_two k))
  rw [← Nat.pow_add, hd] at this
  exact this

theorem two_60 {n : Nat} (h : n ≤ 60) : (2 : Nat) ^ n ≤ 1152921504606846976 := Nat.pow_le_pow_right (by omega) h

theorem put_mem {l : List Nat} {n x : Nat} (h : x ∈ ordPut l n) : x ∈ l ∨ x = n := by
  unfold ordPut at h
  rcases List.mem_append.1 h with h | h
  · rcases List.mem_append.1 h with h | h
    · exact .inl (List.mem_filter.1 h).1
    · exact .inr (List.mem_singleton.1 h)
  · exact .inl (List.mem_filter.1 h).1

/-- All lists of a table rise. -/
def TabRises (T : OTab) : Prop := ∀ i, Rises (oAt T i).2
theorem TabRises.start (s : Nat) : TabRises (List.replicate (s + 1) (1, [])) := fun i => by
  unfold oAt
  rw [List.getElem?_replicate]
  split <;> exact List.Pairwise.nil
theorem TabRises.set {T : OTab} (h : TabRises T) {n : Nat} {e : OEnt} (he : Rises e.2) : TabRises (T.set n e) := fun i => by
  unfold oAt
  rw [List.getElem?_set]
  split
  · split
    · exact he
    · exact List.Pairwise.nil
  · exact h i

end Go.Proofs.Ytaedgicglddihaa
