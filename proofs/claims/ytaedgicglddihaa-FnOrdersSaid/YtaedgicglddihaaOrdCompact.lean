/-
  GreatestOrder: sorted numbers of which each stays once are the rising list that the plain function makes. No program is named here.
-/
import Derived.Test.YtaedgicglddihaaOrdT
import Derived.Lib.SlicesCompact
namespace Go.Proofs.Ytaedgicglddihaa

theorem rises_same : ∀ (a b : List Int), a.Pairwise (· < ·) → b.Pairwise (· < ·) → (∀ x, x ∈ a ↔ x ∈ b) → a = b
  | [], [], _, _, _ => rfl
  | [], y :: b, _, _, h => absurd ((h y).2 (by simp)) (by simp)
  | x :: a, [], _, _, h => absurd ((h x).1 (by simp)) (by simp)
  | x :: a, y :: b, ha, hb, h => by
    obtain ⟨a1, a2⟩ := List.pairwise_cons.1 ha
    obtain ⟨b1, b2⟩ := List.pairwise_cons.1 hb
    have e : x = y := by
      rcases List.mem_cons.1 ((h x).1 (by simp)) with e | hx
      · exact e
      · rcases List.mem_cons.1 ((h y).2 (by simp)) with e | hy
        · exact e.symm
        · have := a1 y hy; have := b1 x hx; omega
    subst e
    rw [rises_same a b a2 b2 (fun z => ⟨fun hz => ?_, fun hz => ?_⟩)]
    · rcases List.mem_cons.1 ((h z).1 (by simp [hz])) with e | h2
      · have := a1 z hz; omega
      · exact h2
    · rcases List.mem_cons.1 ((h z).2 (by simp [hz])) with e | h2
      · have := b1 z hz; omega
      · exact h2

theorem compact_upto (d : Array Int) (hs : ∀ i j, i ≤ j → j < d.size → d[i]! ≤ d[j]!) : ∀ m, m ≤ d.size →
    (Lib.compactUpTo d m).Pairwise (· < ·) ∧ (∀ x, x ∈ Lib.compactUpTo d m ↔ ∃ i, i < m ∧ d[i]! = x) := by
  intro m
  induction m with
  | zero => intro _; exact ⟨List.Pairwise.nil, fun x => ⟨fun h => by simp [Lib.compactUpTo] at h, fun ⟨i, hi, _⟩ => by omega⟩⟩
  | succ m ih =>
    intro hm
    obtain ⟨i1, i2⟩ := ih (by omega)
    rw [Lib.compactUpTo_succ]
    cases hk : Lib.keeps d m with
    | true =>
      rw [if_pos rfl]
      have hne : m = 0 ∨ d[m]! ≠ d[m - 1]! := by simpa [Lib.keeps] using hk
      refine ⟨List.pairwise_append.2 ⟨i1, List.pairwise_singleton _ _, fun x hx y hy => ?_⟩, fun x => ?_⟩
      · rw [List.mem_singleton.1 hy]
        obtain ⟨i, hi, rfl⟩ := (i2 x).1 hx
        have h1 := hs i (m - 1) (by omega) (by omega)
        have h2 := hs (m - 1) m (by omega) (by omega)
        rcases hne with h | h
        · omega
        · omega
      · rw [List.mem_append, List.mem_singleton, i2 x]
        constructor
        · rintro (⟨i, hi, e⟩ | e)
          · exact ⟨i, by omega, e⟩
          · exact ⟨m, by omega, e.symm⟩
        · rintro ⟨i, hi, e⟩
          by_cases h : i = m
          · subst h; exact .inr e.symm
          · exact .inl ⟨i, by omega, e⟩
    | false =>
      rw [if_neg (by simp), List.append_nil]
      have hne : ¬ m = 0 ∧ d[m]! = d[m - 1]! := by simpa [Lib.keeps] using hk
      refine ⟨i1, fun x => ?_⟩
      rw [i2 x]
      constructor
      · rintro ⟨i, hi, e⟩; exact ⟨i, by omega, e⟩
      · rintro ⟨i, hi, e⟩
        by_cases h : i = m
        · subst h; exact ⟨i - 1, by omega, by rw [← hne.2]; exact e⟩
        · exact ⟨i, by omega, e⟩

theorem put_mem2 (l : List Nat) (n x : Nat) : x ∈ ordPut l n ↔ x ∈ l ∨ x = n := by
  refine ⟨put_mem, fun h => ?_⟩
  unfold ordPut
  rw [List.mem_append, List.mem_append, List.mem_singleton, List.mem_filter, List.mem_filter]
  rcases h with h | h
  · by_cases h1 : x < n
    · exact .inl (.inl ⟨h, by simpa using h1⟩)
    · by_cases h2 : n < x
      · exact .inr ⟨h, by simpa using h2⟩
      · exact .inl (.inr (by omega))
  · exact .inl (.inr h)

theorem sorted_fold : ∀ (l a : List Nat), Rises a → Rises (l.foldl ordPut a) ∧ ∀ x, x ∈ l.foldl ordPut a ↔ x ∈ a ∨ x ∈ l
  | [], a, h => ⟨h, fun x => by simp⟩
  | n :: l, a, h => by
    obtain ⟨h1, h2⟩ := sorted_fold l (ordPut a n) (rises_put n h)
    refine ⟨h1, fun x => ?_⟩
    rw [List.foldl_cons, h2, put_mem2, List.mem_cons]
    constructor
    · rintro ((h | h) | h)
      · exact .inl h
      · exact .inr (.inl h)
      · exact .inr (.inr h)
    · rintro (h | h | h)
      · exact .inl (.inl h)
      · exact .inl (.inr h)
      · exact .inr h

/-- Sorted, and each once: the program's list. -/
theorem compact_sorted (l : List Nat) : Lib.compact ((oList l).mergeSort fun x y => decide (x ≤ y)) = oList (ordSorted l) := by
  obtain ⟨h1, h2⟩ := sorted_fold l [] List.Pairwise.nil
  obtain ⟨z, hz⟩ : ∃ z, z = (oList l).mergeSort fun x y => decide (x ≤ y) := ⟨_, rfl⟩
  have hp : z.Perm (oList l) := by rw [hz]; exact List.mergeSort_perm _ _
  have hs : z.Pairwise fun x y => decide (x ≤ y) = true := by
    rw [hz]
    exact List.pairwise_mergeSort (fun a b c h1 h2 => by simp at *; omega) (fun a b => by simp; omega) _
  rw [← hz]
  have hle : ∀ i j, i ≤ j → j < z.toArray.size → z.toArray[i]! ≤ z.toArray[j]! := by
    intro i j hij hj
    have hj' : j < z.length := by simpa using hj
    rw [getElem!_pos z.toArray i (by simp; omega), getElem!_pos z.toArray j hj]
    simp only [List.getElem_toArray]
    by_cases e : i = j
    · subst e; exact Int.le_refl _
    · simpa using List.pairwise_iff_getElem.1 hs i j (by omega) hj' (by omega)
  obtain ⟨c1, c2⟩ := compact_upto z.toArray hle z.length (by simp)
  unfold Lib.compact
  refine rises_same _ _ c1 ?_ (fun x => ?_)
  · unfold oList ordSorted
    rw [List.pairwise_map]
    exact h1.imp (fun h => by omega)
  · rw [c2 x]
    unfold oList
    rw [List.mem_map]
    constructor
    · rintro ⟨i, hi, rfl⟩
      rw [getElem!_pos z.toArray i (by simpa using hi)]
      have : z.toArray[i]'(by simpa using hi) ∈ oList l := hp.subset (by simp)
      obtain ⟨n, hn, e⟩ := List.mem_map.1 this
      exact ⟨n, (h2 n).2 (.inr hn), e⟩
    · rintro ⟨n, hn, rfl⟩
      have hn' : n ∈ l := by
        rcases (h2 n).1 hn with h | h
        · cases h
        · exact h
      have : (n : Int) ∈ z := hp.symm.subset (List.mem_map.2 ⟨n, hn', rfl⟩)
      obtain ⟨i, hi, e⟩ := List.getElem_of_mem this
      exact ⟨i, hi, by rw [getElem!_pos z.toArray i (by simpa using hi)]; simpa using e⟩

end Go.Proofs.Ytaedgicglddihaa
