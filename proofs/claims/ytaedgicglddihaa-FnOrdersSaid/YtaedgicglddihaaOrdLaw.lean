/-
  FnOrders: the plain law: the least common multiple of numbers with a sum is not greater than the greatest order. No program is named here.
-/
import Derived.Test.YtaedgicglddihaaOrdAll
namespace Go.Proofs.Ytaedgicglddihaa

/-- The greatest exponent up to f with which p divides n. -/
def expo (p n : Nat) : Nat → Nat
  | 0 => 0
  | f + 1 => if p ^ (f + 1) ∣ n then f + 1 else expo p n f
theorem expo_le (p n : Nat) : ∀ f, expo p n f ≤ f
  | 0 => Nat.le_refl _
  | f + 1 => by
    unfold expo
    split
    · exact Nat.le_refl _
    · exact Nat.le_trans (expo_le p n f) (Nat.le_succ _)
theorem expo_dvd (p n : Nat) : ∀ f, p ^ expo p n f ∣ n
  | 0 => by simp [expo]
  | f + 1 => by
    unfold expo
    split
    · assumption
    · exact expo_dvd p n f

def strip (p n : Nat) : Nat := n / p ^ expo p n 6
def cost (n : Nat) : Nat := if n = 1 then 0 else n
def costs : List Nat → Nat
  | [] => 0
  | n :: ns => cost n + costs ns
def lcms : List Nat → Nat
  | [] => 1
  | n :: ns => Nat.lcm n (lcms ns)
def maxE (p : Nat) : List Nat → Nat
  | [] => 0
  | n :: ns => max (expo p n 6) (maxE p ns)
def powC (p e : Nat) : Nat := if e = 0 then 0 else p ^ e

theorem strip_mul (p n : Nat) : p ^ expo p n 6 * strip p n = n := Nat.mul_div_cancel' (expo_dvd p n 6)

theorem strip_pos {p n : Nat} (hn : 0 < n) : 0 < strip p n := by
  have := strip_mul p n
  rcases Nat.eq_zero_or_pos (strip p n) with h | h
  · rw [h] at this; omega
  · exact h

theorem cost_strip {p n : Nat} (hp : 2 ≤ p) (hn : 0 < n) : cost (strip p n) + powC p (expo p n 6) ≤ cost n := by
  have h := strip_mul p n
  have hm := strip_pos (p := p) hn
  unfold powC
  split
  · rename_i h0
    rw [h0] at h
    simp at h
    rw [h]; omega
  · rename_i h0
    have hQ : 2 ≤ p ^ expo p n 6 := Nat.le_trans hp (by
      have := Nat.pow_le_pow_right (n := p) (by omega) (show 1 ≤ expo p n 6 from by omega)
      simpa using this)
    generalize p ^ expo p n 6 = Q at h hQ ⊢
    generalize strip p n = m at h hm ⊢
    unfold cost
    subst h
    by_cases h1 : m = 1
    · subst h1; rw [if_pos rfl, Nat.mul_one, if_neg (by omega)]; omega
    · obtain ⟨a, rfl⟩ : ∃ a, Q = a + 2 := ⟨Q - 2, by omega⟩
      obtain ⟨b, rfl⟩ : ∃ b, m = b + 2 := ⟨m - 2, by omega⟩
      have e : (a + 2) * (b + 2) = a * b + 2 * a + 2 * b + 4 := by
        rw [Nat.add_mul, Nat.mul_add, Nat.mul_add]; omega
      rw [if_neg h1, if_neg (by omega), e]
      omega

theorem cost_strip_le {p n : Nat} (hp : 2 ≤ p) (hn : 0 < n) : cost (strip p n) ≤ cost n := by
  have := cost_strip hp hn
  omega

theorem costs_strip_le {p : Nat} (hp : 2 ≤ p) : ∀ ns : List Nat, (∀ n, n ∈ ns → 0 < n) → costs (ns.map (strip p)) ≤ costs ns
  | [], _ => Nat.le_refl _
  | n :: ns, h => by
    have h1 := costs_strip_le hp ns (fun m hm => h m (by simp [hm]))
    have h2 := cost_strip_le hp (h n (by simp))
    simp only [List.map_cons, costs]
    omega

theorem costs_strip {p : Nat} (hp : 2 ≤ p) : ∀ ns : List Nat, (∀ n, n ∈ ns → 0 < n) → costs (ns.map (strip p)) + powC p (maxE p ns) ≤ costs ns
  | [], _ => by simp [costs, maxE, powC]
  | n :: ns, h => by
    have hns : ∀ m, m ∈ ns → 0 < m := fun m hm => h m (by simp [hm])
    have h1 := costs_strip hp ns hns
    have h1' := costs_strip_le hp ns hns
    have h2 := cost_strip hp (h n (by simp))
    have h2' := cost_strip_le hp (h n (by simp))
    simp only [List.map_cons, costs, maxE]
    rcases Nat.le_total (expo p n 6) (maxE p ns) with hm | hm
    · rw [Nat.max_eq_right hm]; omega
    · rw [Nat.max_eq_left hm]; omega

theorem maxE_le (p : Nat) : ∀ ns : List Nat, maxE p ns ≤ 6
  | [] => by simp [maxE]
  | n :: ns => Nat.max_le.2 ⟨expo_le p n 6, maxE_le p ns⟩

theorem lcms_strip (p : Nat) : ∀ ns : List Nat, ∀ E, maxE p ns ≤ E → lcms ns ∣ p ^ E * lcms (ns.map (strip p))
  | [], _, _ => by simp [lcms]
  | n :: ns, E, hE => by
    have hE2 := Nat.max_le.1 hE
    simp only [List.map_cons, lcms]
    apply Nat.lcm_dvd
    · have h := Nat.mul_dvd_mul (Nat.pow_dvd_pow p hE2.1) (Nat.dvd_lcm_left (strip p n) (lcms (ns.map (strip p))))
      rwa [strip_mul] at h
    · exact Nat.dvd_trans (lcms_strip p ns E hE2.2) (Nat.mul_dvd_mul_left _ (Nat.dvd_lcm_right _ _))

theorem lcms_pos : ∀ ns : List Nat, (∀ n, n ∈ ns → 0 < n) → 0 < lcms ns
  | [], _ => Nat.one_pos
  | n :: ns, h => Nat.lcm_pos (h n (by simp)) (lcms_pos ns (fun m hm => h m (by simp [hm])))

def bndCell (t : List Nat) (p s : Nat) : Nat := (List.range 6).foldl (fun m i => if p ^ (i + 1) ≤ s then max m (p ^ (i + 1) * t[s - p ^ (i + 1)]?.getD 0) else m) (t[s]?.getD 0)
def bndRow (t : List Nat) (p : Nat) : List Nat := (List.range 61).map fun s => bndCell t p s
def bndTab : List Nat → List Nat
  | [] => List.replicate 61 1
  | p :: ps => bndRow (bndTab ps) p
def stripAll : List Nat → Nat → Nat
  | [], n => n
  | p :: ps, n => stripAll ps (strip p n)

theorem fold_ge {f : Nat → Nat} {c : Nat → Bool} (l : List Nat) (m : Nat) : m ≤ l.foldl (fun m i => if c i then max m (f i) else m) m ∧ ∀ i, i ∈ l → c i = true → f i ≤ l.foldl (fun m i => if c i then max m (f i) else m) m := by
  induction l generalizing m with
  | nil => exact ⟨Nat.le_refl _, fun i hi => by cases hi⟩
  | cons x l ih =>
    rw [List.foldl_cons]
    obtain ⟨h1, h2⟩ := ih (if c x then max m (f x) else m)
    refine ⟨Nat.le_trans (by split; exact Nat.le_max_left _ _; exact Nat.le_refl _) h1, fun i hi hc => ?_⟩
    rcases List.mem_cons.1 hi with rfl | hi
    · exact Nat.le_trans (by rw [if_pos hc]; exact Nat.le_max_right _ _) h1
    · exact h2 i hi hc

theorem bndRow_at (t : List Nat) (p s : Nat) (hs : s ≤ 60) : (bndRow t p)[s]?.getD 0 = bndCell t p s := by
  unfold bndRow
  rw [List.getElem?_map, List.getElem?_range (by omega)]
  rfl

theorem bndCell_ge (t : List Nat) (p s e : Nat) (he : e ≤ 6) (hp : powC p e ≤ s) : p ^ e * t[s - powC p e]?.getD 0 ≤ bndCell t p s := by
  have h := fold_ge (f := fun i => p ^ (i + 1) * t[s - p ^ (i + 1)]?.getD 0) (c := fun i => decide (p ^ (i + 1) ≤ s)) (List.range 6) (t[s]?.getD 0)
  have e1 : bndCell t p s = (List.range 6).foldl (fun m i => if decide (p ^ (i + 1) ≤ s) = true then max m (p ^ (i + 1) * t[s - p ^ (i + 1)]?.getD 0) else m) (t[s]?.getD 0) := by
    unfold bndCell
    simp only [decide_eq_true_eq]
  rw [← e1] at h
  unfold powC at hp ⊢
  by_cases h0 : e = 0
  · subst h0; simpa using h.1
  · rw [if_neg h0] at hp ⊢
    obtain ⟨k, rfl⟩ : ∃ k, e = k + 1 := ⟨e - 1, by omega⟩
    exact h.2 k (List.mem_range.2 (by omega)) (by simpa using hp)

theorem lcms_le (ps : List Nat) (hps : ∀ p, p ∈ ps → 2 ≤ p) : ∀ (ns : List Nat) (s : Nat), s ≤ 60 → (∀ n, n ∈ ns → 0 < n ∧ stripAll ps n = 1) → costs ns ≤ s → lcms ns ≤ (bndTab ps)[s]?.getD 0 := by
  induction ps with
  | nil =>
    intro ns s hs hn _
    have : lcms ns = 1 := by
      induction ns with
      | nil => rfl
      | cons n ns ih =>
        have h1 : n = 1 := (hn n (by simp)).2
        subst h1
        simp only [lcms]
        rw [Nat.lcm_one_left]
        exact ih (fun m hm => hn m (by simp [hm])) (by simp only [costs] at *; omega)
    rw [this]
    simp only [bndTab]
    rw [List.getElem?_replicate, if_pos (by omega)]
    exact Nat.le_refl _
  | cons p ps ih =>
    intro ns s hs hn hc
    have hp := hps p (by simp)
    have hpos : ∀ n, n ∈ ns → 0 < n := fun n h => (hn n h).1
    have h1 := costs_strip hp ns hpos
    have h2 := ih (fun q hq => hps q (by simp [hq])) (ns.map (strip p)) (s - powC p (maxE p ns)) (by omega) (fun m hm => by
      obtain ⟨n, h3, rfl⟩ := List.mem_map.1 hm
      exact ⟨strip_pos (hpos n h3), (hn n h3).2⟩) (by omega)
    have h3 := lcms_strip p ns _ (Nat.le_refl _)
    have h4 : 0 < p ^ maxE p ns * lcms (ns.map (strip p)) := Nat.mul_pos (Nat.pow_pos (by omega)) (lcms_pos _ (fun m hm => by
      obtain ⟨n, h3, rfl⟩ := List.mem_map.1 hm
      exact strip_pos (hpos n h3)))
    have h5 := Nat.le_of_dvd h4 h3
    refine Nat.le_trans h5 ?_
    show _ ≤ (bndRow (bndTab ps) p)[s]?.getD 0
    rw [bndRow_at _ _ _ hs]
    exact Nat.le_trans (Nat.mul_le_mul_left _ h2) (bndCell_ge _ _ _ _ (maxE_le p ns) (by omega))

def primes60 : List Nat := [2, 3, 5, 7, 11, 13, 17, 19, 23, 29, 31, 37, 41, 43, 47, 53, 59]

set_option maxRecDepth 1000000 in
theorem strips_60 : (List.range 61).all (fun n => n == 0 || stripAll primes60 n == 1) = true := by kernel_rfl

set_option maxRecDepth 1000000 in
theorem bounds_60 : (List.range 61).all (fun s => decide ((bndTab primes60)[s]?.getD 0 ≤ (ordLit s).1)) = true := by kernel_rfl

/-- Numbers with a sum have no greater common multiple than the greatest order. -/
theorem lcms_ord (ns : List Nat) (s : Nat) (hs : s ≤ 60) (hn : ∀ n, n ∈ ns → 0 < n) (hsum : ns.sum ≤ s) : lcms ns ≤ (ordLit s).1 := by
  have hc : ∀ ns : List Nat, costs ns ≤ ns.sum := by
    intro ns
    induction ns with
    | nil => exact Nat.le_refl _
    | cons n ns ih => simp only [costs, List.sum_cons, cost]; split <;> omega
  have hle : ∀ ns : List Nat, ∀ n, n ∈ ns → n ≤ ns.sum := by
    intro ns
    induction ns with
    | nil => intro n h; cases h
    | cons m ns ih =>
      intro n h
      rw [List.sum_cons]
      rcases List.mem_cons.1 h with rfl | h
      · omega
      · have := ih n h; omega
  refine Nat.le_trans (lcms_le primes60 (by decide) ns s hs (fun n h => ⟨hn n h, ?_⟩) (Nat.le_trans (hc ns) hsum)) ?_
  · have := List.all_eq_true.1 strips_60 n (List.mem_range.2 (by have := hle ns n h; omega))
    have h0 := hn n h
    simpa [show n ≠ 0 from by omega] using this
  · have := List.all_eq_true.1 bounds_60 s (List.mem_range.2 (by omega))
    simpa using this

/-- What the answers keep. -/
def ordGood (s : Nat) : Bool :=
  decide ((ordLit s).2.foldl (· * ·) 1 = (ordLit s).1) && decide ((ordLit s).2.sum ≤ s) && decide ((ordLit s).2.Pairwise fun a b => a < b ∧ Nat.gcd b a = 1) && decide ((ordLit s).1 ≤ (ordLit (s + 1)).1) && decide ((ordLit s).2.length ≤ 7) && (ordLit s).2.all (fun n => decide (2 ≤ n ∧ n ≤ 60)) && decide (1 ≤ (ordLit s).1 ∧ (ordLit s).1 ≤ 1021020)

set_option maxRecDepth 1000000 in
theorem goods_60 : (List.range 60).all ordGood = true := by kernel_rfl

end Go.Proofs.Ytaedgicglddihaa
