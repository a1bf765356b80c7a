/-
  What StatesUnlike answers, in plain words; the program's search (with equal pairs) finds what the reference's (without them) finds.
-/
import Derived.Test.YtmbecaiieibcjaaStructs
namespace Go.Proofs.Ytmbecaiieibcjaa
open Go.RowKit

abbrev PW := (Nat × Nat) × List UInt8

def accU (r : Reader) (a : Nat) : Bool := r.accept[a]?.getD false
def nxtU (r : Reader) (a l : Nat) : Nat := ((r.next[a]?.getD [])[l]?.getD 0).toNat
def pairU (r : Reader) (e : PW) (l : Nat) : Nat × Nat := (nxtU r e.1.1 l, nxtU r e.1.2 l)
def ext1 (d : Bool) (r : Reader) (e : PW) (L : List PW) (l : Nat) : List PW :=
  if (d || (pairU r e l).1 != (pairU r e l).2) && !(L.any fun x => x.1 == pairU r e l) then L ++ [(pairU r e l, e.2 ++ [UInt8.ofNat (97 + l)])] else L
def extU (d : Bool) (r : Reader) (e : PW) (L : List PW) (k : Nat) : List PW := (List.range k).foldl (ext1 d r e) L
def goU (d : Bool) (r : Reader) : Nat → Nat → List PW → Option (List UInt8)
  | 0, _, _ => none
  | f + 1, i, L => match L[i]? with
    | none => none
    | some e => if accU r e.1.1 != accU r e.1.2 then some e.2 else goU d r f (i + 1) (extU d r e L r.letters.toNat)

theorem extU_zero (d : Bool) (r : Reader) (e : PW) (L : List PW) : extU d r e L 0 = L := rfl
theorem extU_succ (d : Bool) (r : Reader) (e : PW) (L : List PW) (k : Nat) : extU d r e L (k + 1) = ext1 d r e (extU d r e L k) k := by
  unfold extU
  rw [List.range_succ, List.foldl_append]
  rfl

/-- Pairs of states, each once. -/
structure InvU (n : Nat) (L : List PW) : Prop where
  lt : ∀ x, x ∈ L → x.1.1 < n ∧ x.1.2 < n
  nd : L.Pairwise fun x y => x.1 ≠ y.1

theorem nodup_le : ∀ (N : Nat) (l : List Nat), l.Nodup → (∀ x, x ∈ l → x < N) → l.length ≤ N
  | 0, [], _, _ => Nat.le_refl _
  | 0, a :: l, _, h => absurd (h a (by simp)) (by omega)
  | N + 1, l, nd, h => by
    by_cases hm : N ∈ l
    · have h1 := nodup_le N (l.erase N) (nd.erase N) (fun x hx => by
        have h2 := (nd.mem_erase_iff).1 hx
        have h3 := h x h2.2
        have h4 := h2.1
        omega)
      rw [List.length_erase_of_mem hm] at h1
      omega
    · have h1 := nodup_le N l nd (fun x hx => by
        have h2 := h x hx
        have h3 : x ≠ N := fun e => hm (e ▸ hx)
        omega)
      omega

theorem InvU.len {n : Nat} {L : List PW} (h : InvU n L) : L.length ≤ n * n := by
  have h1 := nodup_le (n * n) (L.map fun x => x.1.1 * n + x.1.2) ?_ ?_
  · rwa [List.length_map] at h1
  · unfold List.Nodup
    rw [List.pairwise_map]
    refine (List.pairwise_iff_forall_sublist.2 ?_)
    intro x y hs
    have hne := List.pairwise_iff_forall_sublist.1 h.nd hs
    have hx := h.lt x (hs.subset (by simp))
    have hy := h.lt y (hs.subset (by simp))
    intro e
    apply hne
    have hn : 0 < n := by omega
    have e1 : (x.1.1 * n + x.1.2) / n = (y.1.1 * n + y.1.2) / n := by rw [e]
    have e2 : (x.1.1 * n + x.1.2) % n = (y.1.1 * n + y.1.2) % n := by rw [e]
    rw [Nat.mul_comm, Nat.mul_add_div hn, Nat.mul_comm, Nat.mul_add_div hn, Nat.div_eq_of_lt hx.2, Nat.div_eq_of_lt hy.2] at e1
    rw [Nat.mul_comm, Nat.mul_add_mod, Nat.mul_comm, Nat.mul_add_mod, Nat.mod_eq_of_lt hx.2, Nat.mod_eq_of_lt hy.2] at e2
    exact Prod.ext (by omega) e2
  · intro x hx
    obtain ⟨y, hy, rfl⟩ := List.mem_map.1 hx
    have h1 := h.lt y hy
    have h2 : y.1.1 * n + n ≤ n * n := by
      have := Nat.mul_le_mul_right n (show y.1.1 + 1 ≤ n by omega)
      rw [Nat.add_mul] at this
      omega
    omega

theorem any_false {L : List PW} {p : Nat × Nat} (h : (L.any fun x => x.1 == p) = false) : ∀ x, x ∈ L → x.1 ≠ p := by
  intro x hx e
  have := List.any_eq_false.1 h x hx
  simp [e] at this

theorem InvU.ext1 {d : Bool} {r : Reader} {e : PW} {n l : Nat} {L : List PW} (h : InvU n L) (hp : (pairU r e l).1 < n ∧ (pairU r e l).2 < n) : InvU n (ext1 d r e L l) := by
  unfold Go.Proofs.Ytmbecaiieibcjaa.ext1
  split
  · rename_i hc
    rw [Bool.and_eq_true, Bool.not_eq_true'] at hc
    refine ⟨fun x hx => ?_, ?_⟩
    · rcases List.mem_append.1 hx with hx | hx
      · exact h.lt x hx
      · obtain rfl : x = _ := by simpa using hx
        exact hp
    · rw [List.pairwise_append]
      refine ⟨h.nd, by simp, fun x hx y hy => ?_⟩
      obtain rfl : y = _ := by simpa using hy
      exact any_false hc.2 x hx
  · exact h

theorem InvU.extU {d : Bool} {r : Reader} {e : PW} {n : Nat} {L : List PW} (h : InvU n L) : ∀ k, (∀ l, l < k → (pairU r e l).1 < n ∧ (pairU r e l).2 < n) → InvU n (extU d r e L k)
  | 0, _ => h
  | k + 1, hp => by
    rw [extU_succ]
    exact (InvU.extU h k fun l hl => hp l (by omega)).ext1 (hp k (by omega))

theorem ext1_pre (d : Bool) (r : Reader) (e : PW) (L : List PW) (l : Nat) : ∃ X, ext1 d r e L l = L ++ X := by
  unfold ext1
  split
  · exact ⟨_, rfl⟩
  · exact ⟨[], (List.append_nil L).symm⟩
theorem extU_pre (d : Bool) (r : Reader) (e : PW) (L : List PW) : ∀ k, ∃ X, extU d r e L k = L ++ X
  | 0 => ⟨[], (List.append_nil L).symm⟩
  | k + 1 => by
    obtain ⟨X, hX⟩ := extU_pre d r e L k
    obtain ⟨Y, hY⟩ := ext1_pre d r e (extU d r e L k) k
    exact ⟨X ++ Y, by rw [extU_succ, hY, hX, List.append_assoc]⟩

/-- Not one state twice. -/
def ndU (x : PW) : Bool := x.1.1 != x.1.2

theorem any_nd (L : List PW) (p : Nat × Nat) (h : (p.1 != p.2) = true) : (L.any fun x => x.1 == p) = ((L.filter ndU).any fun x => x.1 == p) := by
  rw [List.any_filter]
  congr 1
  funext x
  by_cases hx : x.1 = p
  · have : ndU x = true := by unfold ndU; rw [hx]; exact h
    rw [this, Bool.true_and]
  · have : (x.1 == p) = false := by simpa using hx
    rw [this, Bool.and_false]

theorem ext1_nd (r : Reader) (e : PW) (L : List PW) (l : Nat) : (ext1 true r e L l).filter ndU = ext1 false r e (L.filter ndU) l := by
  cases hp : ((pairU r e l).1 != (pairU r e l).2)
  · have hf : ext1 false r e (L.filter ndU) l = L.filter ndU := by unfold ext1; rw [hp]; rfl
    rw [hf]
    unfold ext1
    split
    · rw [List.filter_append]
      have : ndU (pairU r e l, e.2 ++ [UInt8.ofNat (97 + l)]) = false := hp
      rw [List.filter_cons, this]
      simp
    · rfl
  · unfold ext1
    rw [hp, ← any_nd _ _ hp]
    cases (L.any fun x => x.1 == pairU r e l)
    · show ((if true = true then _ else _) : List PW).filter ndU = (if true = true then _ else _)
      rw [if_pos rfl, if_pos rfl, List.filter_append]
      have : ndU (pairU r e l, e.2 ++ [UInt8.ofNat (97 + l)]) = true := hp
      rw [List.filter_cons, this]
      simp
    · rfl

theorem extU_nd (r : Reader) (e : PW) (L : List PW) : ∀ k, (extU true r e L k).filter ndU = extU false r e (L.filter ndU) k
  | 0 => rfl
  | k + 1 => by rw [extU_succ, extU_succ, ext1_nd, extU_nd r e L k]

theorem extU_diag (r : Reader) (e : PW) (he : e.1.1 = e.1.2) (L : List PW) (k : Nat) : (extU true r e L k).filter ndU = L.filter ndU := by
  rw [extU_nd]
  induction k with
  | zero => rfl
  | succ k ih =>
    rw [extU_succ, ih]
    unfold ext1 pairU
    rw [he]
    simp

theorem goU_eq (r : Reader) (n : Nat) (hn : ∀ a, a < n → ∀ l, l < r.letters.toNat → nxtU r a l < n) : ∀ (f f' i : Nat) (L : List PW), InvU n L → n * n < f + i → n * n < f' + ((L.take i).filter ndU).length → i ≤ L.length → goU true r f i L = goU false r f' ((L.take i).filter ndU).length (L.filter ndU)
  | 0, f', i, L, I, hf, _, hi => by have := I.len; omega
  | f + 1, f', i, L, I, hf, hf', hi => by
    cases hg : L[i]? with
    | none =>
      have hil : L.length ≤ i := List.getElem?_eq_none_iff.1 hg
      have ht : L.take i = L := List.take_of_length_le hil
      rw [ht]
      have h1 : goU true r (f + 1) i L = none := by unfold goU; rw [hg]
      rw [h1]
      cases f' with
      | zero => rfl
      | succ f' => unfold goU; rw [List.getElem?_eq_none_iff.2 (Nat.le_refl _)]
    | some e =>
      obtain ⟨hil, heq⟩ := List.getElem?_eq_some_iff.1 hg
      have hm : e ∈ L := List.mem_of_getElem? hg
      have hlt := I.lt e hm
      have hpr : ∀ l, l < r.letters.toNat → (pairU r e l).1 < n ∧ (pairU r e l).2 < n := fun l hl => ⟨hn _ hlt.1 l hl, hn _ hlt.2 l hl⟩
      have I2 := I.extU (d := true) _ hpr
      obtain ⟨X, hX⟩ := extU_pre true r e L r.letters.toNat
      have ht1 : (extU true r e L r.letters.toNat).take (i + 1) = L.take i ++ [e] := by
        rw [hX, List.take_append_of_le_length (by omega), List.take_succ_eq_append_getElem hil, heq]
      have hle : i + 1 ≤ (extU true r e L r.letters.toNat).length := by rw [hX, List.length_append]; omega
      have hdec : L = L.take i ++ e :: L.drop (i + 1) := by
        conv => lhs; rw [← List.take_append_drop i L]
        rw [List.drop_eq_getElem_cons hil, heq]
      have hU : goU true r (f + 1) i L = if accU r e.1.1 != accU r e.1.2 then some e.2 else goU true r f (i + 1) (extU true r e L r.letters.toNat) := by
        rw [goU, hg]
      rw [hU]
      by_cases hd : e.1.1 = e.1.2
      · have hnd : ndU e = false := by unfold ndU; rw [hd]; simp
        have ht2 : ((extU true r e L r.letters.toNat).take (i + 1)).filter ndU = (L.take i).filter ndU := by
          rw [ht1, List.filter_append, List.filter_cons, hnd]; simp
        have ih := goU_eq r n hn f f' (i + 1) _ I2 (by omega) (by rw [ht2]; exact hf') hle
        rw [ht2, extU_diag r e hd] at ih
        rw [← ih, hd]
        simp
      · have hnd : ndU e = true := by unfold ndU; simpa using hd
        have ht2 : ((extU true r e L r.letters.toNat).take (i + 1)).filter ndU = (L.take i).filter ndU ++ [e] := by
          rw [ht1, List.filter_append, List.filter_cons, hnd]; simp
        have hfl : L.filter ndU = (L.take i).filter ndU ++ e :: (L.drop (i + 1)).filter ndU := by
          conv => lhs; rw [hdec]
          rw [List.filter_append, List.filter_cons, hnd]; simp
        have hg2 : (L.filter ndU)[((L.take i).filter ndU).length]? = some e := by
          rw [hfl, List.getElem?_append_right (Nat.le_refl _), Nat.sub_self]; rfl
        have hj : ((L.take i).filter ndU).length < (L.filter ndU).length := (List.getElem?_eq_some_iff.1 hg2).1
        have hfz := List.length_filter_le ndU L
        have hlen := I.len
        cases f' with
        | zero => omega
        | succ f' =>
          have hV : goU false r (f' + 1) ((L.take i).filter ndU).length (L.filter ndU) = if accU r e.1.1 != accU r e.1.2 then some e.2 else goU false r f' (((L.take i).filter ndU).length + 1) (extU false r e (L.filter ndU) r.letters.toNat) := by
            rw [goU, hg2]
          rw [hV]
          split
          · rfl
          · have ih := goU_eq r n hn f f' (i + 1) _ I2 (by omega) (by rw [ht2, List.length_append, List.length_singleton]; omega) hle
            rw [ih, ht2, List.length_append, List.length_singleton, extU_nd]

/-- The word, if there is one. -/
def unlU (d : Bool) (r : Reader) (s t : Nat) : Option (List UInt8) := goU d r 90001 0 [((s, t), [])]

theorem unlU_eq (r : Reader) (n s t : Nat) (hn : ∀ a, a < n → ∀ l, l < r.letters.toNat → nxtU r a l < n) (hs : s < n) (ht : t < n) (h3 : n ≤ 300) : unlU true r s t = if s = t then none else unlU false r s t := by
  have hnn : n * n ≤ 90000 := Nat.mul_le_mul h3 h3
  have I : InvU n [((s, t), [])] := ⟨fun x hx => by rw [List.mem_singleton.1 hx]; exact ⟨hs, ht⟩, by simp⟩
  have h := goU_eq r n hn 90001 90001 0 _ I (by omega) (by simp; omega) (by simp)
  unfold unlU
  rw [h]
  by_cases hst : s = t
  · rw [if_pos hst]
    have : ([((s, t), [])] : List PW).filter ndU = [] := by rw [hst]; simp [ndU]
    rw [this]
    rfl
  · rw [if_neg hst]
    have : ([((s, t), [])] : List PW).filter ndU = [((s, t), [])] := by
      have : (s != t) = true := by simpa using hst
      simp [ndU, this]
    rw [this]
    rfl

end Go.Proofs.Ytmbecaiieibcjaa
