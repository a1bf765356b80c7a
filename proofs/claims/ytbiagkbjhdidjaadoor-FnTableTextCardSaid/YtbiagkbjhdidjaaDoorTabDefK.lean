/-
  Tables of two-way runs, in plain words: joins are associative, the turned join is the join of the turned ones, and the empty table changes nothing.
-/
import Derived.Test.YtbiagkbjhdidjaaDoorStructsK
namespace Go.Proofs.YtbiagkbjhdidjaaDoor
open Go.RowKit

structure Ext where
  side : Int
  to : Int
deriving Inhabited, DecidableEq

structure Table where
  left : List Ext
  right : List Ext
deriving Inhabited, DecidableEq

def exOn : Ext := ⟨0, -3⟩

/-! A machine that goes on step by step. -/
section
variable {C : Type} (halt : C → Option Ext) (step : C → C)

inductive Ev : C → Ext → Prop where
  | stop {c r} : halt c = some r → Ev c r
  | next {c r} : halt c = none → Ev (step c) r → Ev c r

theorem Ev.det {c : C} {r s : Ext} (h : Ev halt step c r) : Ev halt step c s → r = s := by
  induction h with
  | stop h1 =>
    intro k
    cases k with
    | stop h2 => rw [h1] at h2; exact Option.some.inj h2
    | next h2 _ => rw [h1] at h2; cases h2
  | next h1 _ ih =>
    intro k
    cases k with
    | stop h2 => rw [h1] at h2; cases h2
    | next _ h2 => exact ih h2

open Classical in
noncomputable def Dn (c : C) : Ext := if h : ∃ r, Ev halt step c r then h.choose else exOn

theorem Dn_ev {c : C} {r : Ext} (h : Ev halt step c r) : Dn halt step c = r := by
  unfold Dn
  rw [dif_pos ⟨r, h⟩]
  exact Ev.det halt step (Exists.choose_spec (⟨r, h⟩ : ∃ r, Ev halt step c r)) h

theorem Dn_none {c : C} (h : ¬ ∃ r, Ev halt step c r) : Dn halt step c = exOn := by unfold Dn; rw [dif_neg h]

theorem Dn_stop {c : C} {r : Ext} (h : halt c = some r) : Dn halt step c = r := Dn_ev halt step (.stop h)

theorem Dn_next {c : C} (h : halt c = none) : Dn halt step c = Dn halt step (step c) := by
  by_cases k : ∃ r, Ev halt step (step c) r
  · obtain ⟨r, hr⟩ := k
    rw [Dn_ev halt step hr, Dn_ev halt step (.next h hr)]
  · rw [Dn_none halt step k, Dn_none halt step]
    rintro ⟨r, hr⟩
    cases hr with
    | stop h2 => rw [h] at h2; cases h2
    | next _ h2 => exact k ⟨r, h2⟩

/-- With so many looks at most. -/
def goF : Nat → C → Ext
  | 0, _ => exOn
  | f + 1, c => match halt c with
    | some r => r
    | none => goF f (step c)

def itC : Nat → C → C
  | 0, c => c
  | k + 1, c => itC k (step c)

theorem itC_add (c : C) : ∀ i k, itC step (i + k) c = itC step k (itC step i c)
  | 0, k => by rw [Nat.zero_add]; rfl
  | i + 1, k => by rw [show i + 1 + k = (i + k) + 1 from by omega]; exact itC_add (step c) i k

theorem goF_ev {c : C} : ∀ f, (∃ k, k < f ∧ (halt (itC step k c)).isSome) → Ev halt step c (goF halt step f c)
  | 0, h => by obtain ⟨k, hk, _⟩ := h; omega
  | f + 1, h => by
    unfold goF
    cases hc : halt c with
    | some r => exact .stop hc
    | none =>
      refine .next hc (goF_ev f ?_)
      obtain ⟨k, hk, hs⟩ := h
      cases k with
      | zero => rw [show itC step 0 c = c from rfl, hc] at hs; cases hs
      | succ k => exact ⟨k, by omega, hs⟩

theorem goF_none {c : C} : ∀ f, (∀ k, k < f → halt (itC step k c) = none) → goF halt step f c = exOn := by
  intro f
  induction f generalizing c with
  | zero => intro _; rfl
  | succ f ih =>
    intro h
    unfold goF
    rw [show halt c = none from h 0 (by omega)]
    exact ih (fun k hk => h (k + 1) (by omega))

theorem ev_it {c : C} {r : Ext} (h : Ev halt step c r) : ∃ k, (halt (itC step k c)).isSome := by
  induction h with
  | stop h1 => exact ⟨0, by simp [itC, h1]⟩
  | next _ _ ih => obtain ⟨k, hk⟩ := ih; exact ⟨k + 1, hk⟩

/-- Few configurations: what has not stopped after as many steps never stops. -/
theorem goF_dn (code : C → Nat) (ok : C → Prop) (M : Nat) (hok : ∀ c, ok c → halt c = none → ok (step c)) (hlt : ∀ c, ok c → halt c = none → code c < M)
    (hinj : ∀ c d, ok c → ok d → halt c = none → halt d = none → code c = code d → c = d) (f : Nat) (hf : M < f) (c : C) (hc : ok c) : goF halt step f c = Dn halt step c := by
  by_cases h : ∃ k, k < f ∧ (halt (itC step k c)).isSome
  · exact (Dn_ev halt step (goF_ev halt step f h)).symm
  have hn : ∀ k, k < f → halt (itC step k c) = none := fun k hk => by
    cases hx : halt (itC step k c) with
    | none => rfl
    | some r => exact absurd ⟨k, hk, by rw [hx]; rfl⟩ h
  rw [goF_none halt step f hn, Dn_none]
  rintro ⟨r, hr⟩
  obtain ⟨m, hm⟩ := ev_it halt step hr
  -- all configurations so far are right ones
  have hoks : ∀ k, k < f → ok (itC step k c) := by
    intro k
    induction k with
    | zero => intro _; exact hc
    | succ k ih =>
      intro hk
      rw [itC_add step c k 1]
      exact hok _ (ih (by omega)) (hn k (by omega))
  -- two are alike
  have hpig : ∃ i j, i < j ∧ j < f ∧ itC step i c = itC step j c := by
    by_cases hd : ∃ i j, i < j ∧ j < f ∧ code (itC step i c) = code (itC step j c)
    · obtain ⟨i, j, h1, h2, h3⟩ := hd
      exact ⟨i, j, h1, h2, hinj _ _ (hoks i (by omega)) (hoks j h2) (hn i (by omega)) (hn j h2) h3⟩
    · exfalso
      have hnd : ((List.range f).map fun k => code (itC step k c)).Nodup := by
        unfold List.Nodup
        rw [List.pairwise_iff_getElem]
        intro i j hi hj hij
        simp only [List.length_map, List.length_range] at hi hj
        simp only [List.getElem_map, List.getElem_range]
        exact fun e => hd ⟨i, j, hij, hj, e⟩
      have hle := hnd.length_le_of_subset (l₂ := List.range M) (fun x hx => by
        obtain ⟨k, hk, rfl⟩ := List.mem_map.1 hx
        have hk := List.mem_range.1 hk
        exact List.mem_range.2 (hlt _ (hoks k hk) (hn k hk)))
      simp only [List.length_map, List.length_range] at hle
      omega
  obtain ⟨i, j, hij, hj, he⟩ := hpig
  -- so nothing ever stops
  have hall : ∀ m, halt (itC step m c) = none := by
    intro m
    induction m using Nat.strongRecOn with
    | _ m ih =>
      by_cases hmj : m < j
      · exact hn m (by omega)
      · have h1 : itC step m c = itC step (i + (m - j)) c := by
          rw [itC_add step c i (m - j), he, ← itC_add step c j (m - j), show j + (m - j) = m from by omega]
        rw [h1]
        exact ih _ (by omega)
  rw [hall m] at hm
  cases hm
end

/-! Two tables side by side. -/
def halt2 (c : Bool × Ext) : Option Ext := if c.2.side = 0 ∨ (c.1 = true ∧ c.2.side = -1) ∨ (c.1 = false ∧ c.2.side = 1) then some c.2 else none
def step2 (x y : Table) (c : Bool × Ext) : Bool × Ext := if c.1 = true then (false, y.left[c.2.to.toNat]?.getD default) else (true, x.right[c.2.to.toNat]?.getD default)

def betweenT (x y : Table) (e : Ext) (first : Bool) : Ext := goF halt2 (step2 x y) (2 * x.left.length + 2) (first, e)

def joinedT (x y : Table) : Table := ⟨(List.range x.left.length).map fun s => betweenT x y (x.left[s]?.getD default) true, (List.range x.left.length).map fun s => betweenT x y (y.right[s]?.getD default) false⟩

def exitOk (n : Nat) (e : Ext) : Prop := (e.side = 0 ∧ -3 ≤ e.to ∧ e.to ≤ -1) ∨ ((e.side = -1 ∨ e.side = 1) ∧ 0 ≤ e.to ∧ e.to < n)

structure TabOk (n : Nat) (x : Table) : Prop where
  n1 : 1 ≤ n
  l : x.left.length = n
  r : x.right.length = n
  le : ∀ e, e ∈ x.left → exitOk n e
  re : ∀ e, e ∈ x.right → exitOk n e

theorem getD_okE {n : Nat} {l : List Ext} (h : ∀ e, e ∈ l → exitOk n e) (hl : l.length = n) {k : Int} (h0 : 0 ≤ k) (h1 : k < n) : exitOk n (l[k.toNat]?.getD default) := by
  rw [List.getElem?_eq_getElem (by omega)]
  exact h _ (List.getElem_mem (by omega))

theorem halt2_none {c : Bool × Ext} {n : Nat} (h : halt2 c = none) (hk : exitOk n c.2) : (c.1 = true ∧ c.2.side = 1 ∧ 0 ≤ c.2.to ∧ c.2.to < n) ∨ (c.1 = false ∧ c.2.side = -1 ∧ 0 ≤ c.2.to ∧ c.2.to < n) := by
  unfold halt2 at h
  split at h
  · cases h
  rename_i hn
  rcases hk with ⟨h0, -⟩ | ⟨h1 | h1, h2, h3⟩
  · exact absurd (.inl h0) hn
  · cases hc : c.1
    · exact .inr ⟨rfl, h1, h2, h3⟩
    · exact absurd (.inr (.inl ⟨hc, h1⟩)) hn
  · cases hc : c.1
    · exact absurd (.inr (.inr ⟨hc, h1⟩)) hn
    · exact .inl ⟨rfl, h1, h2, h3⟩

theorem step2_ok {n : Nat} {x y : Table} (hx : TabOk n x) (hy : TabOk n y) (c : Bool × Ext) (hk : exitOk n c.2) (h : halt2 c = none) : exitOk n (step2 x y c).2 := by
  unfold step2
  rcases halt2_none h hk with ⟨h1, -, h3, h4⟩ | ⟨h1, -, h3, h4⟩
  · rw [if_pos h1]; exact getD_okE hy.le hy.l h3 h4
  · rw [if_neg (by rw [h1]; exact fun e => Bool.noConfusion e)]; exact getD_okE hx.re hx.r h3 h4

theorem between_dn {n : Nat} {x y : Table} (hx : TabOk n x) (hy : TabOk n y) (e : Ext) (he : exitOk n e) (first : Bool) : betweenT x y e first = Dn halt2 (step2 x y) (first, e) := by
  unfold betweenT
  refine goF_dn halt2 (step2 x y) (fun c => if c.1 = true then c.2.to.toNat else n + c.2.to.toNat) (fun c => exitOk n c.2) (2 * n) (fun c hc hh => step2_ok hx hy c hc hh) ?_ ?_ _ (by rw [hx.l]; omega) _ he
  · intro c hc hh
    rcases halt2_none hh hc with ⟨h1, -, h3, h4⟩ | ⟨h1, -, h3, h4⟩
    · show (if c.1 = true then _ else _) < _
      rw [if_pos h1]; omega
    · show (if c.1 = true then _ else _) < _
      rw [if_neg (by rw [h1]; exact fun e => Bool.noConfusion e)]; omega
  · rintro ⟨b, s, t⟩ ⟨b', s', t'⟩ hc hd h1 h2 h3
    have e1 := halt2_none h1 hc
    have e2 := halt2_none h2 hd
    simp only at e1 e2 h3
    clear h1 h2 hc hd
    cases b <;> cases b' <;> simp at e1 e2 h3
    · obtain ⟨rfl, k1, k2⟩ := e1
      obtain ⟨rfl, k3, k4⟩ := e2
      have : t = t' := by omega
      rw [this]
    · omega
    · omega
    · obtain ⟨rfl, k1, k2⟩ := e1
      obtain ⟨rfl, k3, k4⟩ := e2
      have : t = t' := by omega
      rw [this]

theorem betw_ok {n : Nat} {x y : Table} (hx : TabOk n x) (hy : TabOk n y) : ∀ (f : Nat) (c : Bool × Ext), exitOk n c.2 → exitOk n (goF halt2 (step2 x y) f c)
  | 0, _, _ => .inl ⟨rfl, by show (-3 : Int) ≤ -3; decide, by show (-3 : Int) ≤ -1; decide⟩
  | f + 1, c, h => by
    unfold goF
    cases hc : halt2 c with
    | some r =>
      unfold halt2 at hc
      split at hc
      · rw [← Option.some.inj hc]; exact h
      · cases hc
    | none => exact betw_ok hx hy f _ (step2_ok hx hy c h hc)

theorem joined_len (x y : Table) : (joinedT x y).left.length = x.left.length ∧ (joinedT x y).right.length = x.left.length := by unfold joinedT; simp

theorem joined_left (x y : Table) (k : Nat) (h : k < x.left.length) : (joinedT x y).left[k]?.getD default = betweenT x y (x.left[k]?.getD default) true := by
  unfold joinedT; rw [List.getElem?_map, List.getElem?_range h]; rfl
theorem joined_right (x y : Table) (k : Nat) (h : k < x.left.length) : (joinedT x y).right[k]?.getD default = betweenT x y (y.right[k]?.getD default) false := by
  unfold joinedT; rw [List.getElem?_map, List.getElem?_range h]; rfl

theorem joined_ok {n : Nat} {x y : Table} (hx : TabOk n x) (hy : TabOk n y) : TabOk n (joinedT x y) := by
  obtain ⟨h1, h2⟩ := joined_len x y
  refine ⟨hx.n1, h1.trans hx.l, h2.trans hx.l, fun e he => ?_, fun e he => ?_⟩
  · obtain ⟨s, hs, rfl⟩ := List.mem_map.1 he
    have hs := List.mem_range.1 hs
    rw [hx.l] at hs
    exact betw_ok hx hy _ _ (by have := getD_okE hx.le hx.l (k := s) (by omega) (by omega); rwa [Int.toNat_natCast] at this)
  · obtain ⟨s, hs, rfl⟩ := List.mem_map.1 he
    have hs := List.mem_range.1 hs
    rw [hx.l] at hs
    exact betw_ok hx hy _ _ (by have := getD_okE hy.re hy.r (k := s) (by omega) (by omega); rwa [Int.toNat_natCast] at this)

/-! Three tables side by side: the places are 0, 1 and 2. -/
def halt3 (c : Nat × Ext) : Option Ext := if c.2.side = 0 ∨ (c.1 = 0 ∧ c.2.side = -1) ∨ (c.1 = 2 ∧ c.2.side = 1) then some c.2 else none
def step3 (x y z : Table) (c : Nat × Ext) : Nat × Ext :=
  if c.1 = 0 then (1, y.left[c.2.to.toNat]?.getD default) else if c.1 = 1 then (if c.2.side = 1 then (2, z.left[c.2.to.toNat]?.getD default) else (0, x.right[c.2.to.toNat]?.getD default)) else (1, y.right[c.2.to.toNat]?.getD default)

/-- Where a run among the first two stands. -/
def at2 (c : Nat × Ext) : Bool × Ext := (c.1 == 0, c.2)

theorem tri_back {n : Nat} {x y z : Table} (hx : TabOk n x) (hy : TabOk n y) (hz : TabOk n z) {c : Nat × Ext} {r : Ext} (h : Ev halt3 (step3 x y z) c r) : exitOk n c.2 →
    (c.1 = 0 ∨ c.1 = 1 → Dn halt2 (step2 (joinedT x y) z) (true, Dn halt2 (step2 x y) (at2 c)) = r) ∧ (c.1 = 2 → Dn halt2 (step2 (joinedT x y) z) (false, c.2) = r) := by
  induction h with
  | @stop c r h =>
    intro hk
    have hr : c.2 = r := by unfold halt3 at h; split at h; · exact Option.some.inj h
                            · cases h
    refine ⟨fun h01 => ?_, fun h2 => ?_⟩
    · have hs : c.2.side = 0 ∨ (c.1 = 0 ∧ c.2.side = -1) := by
        unfold halt3 at h; split at h
        · rename_i hh; rcases hh with hh | hh | hh
          · exact .inl hh
          · exact .inr hh
          · omega
        · cases h
      have e1 : halt2 (at2 c) = some c.2 := by
        unfold halt2 at2
        rcases hs with hs | ⟨h0, hs⟩
        · rw [if_pos (.inl hs)]
        · rw [if_pos (.inr (.inl ⟨by rw [h0]; rfl, hs⟩))]
      rw [Dn_stop _ _ e1, Dn_stop (r := c.2)]
      · exact hr
      · unfold halt2
        rcases hs with hs | ⟨h0, hs⟩
        · rw [if_pos (.inl hs)]
        · rw [if_pos (.inr (.inl ⟨rfl, hs⟩))]
    · rw [Dn_stop (r := c.2)]
      · exact hr
      · unfold halt3 at h; split at h
        · rename_i hh
          unfold halt2
          rcases hh with hh | hh | hh
          · rw [if_pos (.inl hh)]
          · omega
          · rw [if_pos (.inr (.inr ⟨rfl, hh.2⟩))]
        · cases h
  | @next c r h _ ih =>
    intro hk
    have hn : ¬ (c.2.side = 0 ∨ (c.1 = 0 ∧ c.2.side = -1) ∨ (c.1 = 2 ∧ c.2.side = 1)) := by
      intro hh; unfold halt3 at h; rw [if_pos hh] at h; cases h
    have hs : (c.2.side = -1 ∨ c.2.side = 1) ∧ 0 ≤ c.2.to ∧ c.2.to < n := by
      rcases hk with hk | hk
      · exact absurd (.inl hk.1) hn
      · exact hk
    obtain ⟨hs1, hs2, hs3⟩ := hs
    refine ⟨fun h01 => ?_, fun h2 => ?_⟩
    · rcases h01 with h0 | h1
      · have hside : c.2.side = 1 := by rcases hs1 with h | h; · exact absurd (.inr (.inl ⟨h0, h⟩)) hn
                                        · exact h
        have e3 : step3 x y z c = (1, y.left[c.2.to.toNat]?.getD default) := by unfold step3; rw [if_pos h0]
        rw [e3] at ih
        have := (ih (getD_okE hy.le hy.l hs2 hs3)).1 (.inr rfl)
        have e2 : halt2 (at2 c) = none := by
          unfold halt2 at2; rw [if_neg]; simp only [h0, hside]; simp
        rw [Dn_next _ _ e2]
        have e4 : step2 x y (at2 c) = (false, y.left[c.2.to.toNat]?.getD default) := by unfold step2 at2; rw [if_pos (by rw [h0]; rfl)]
        rw [e4]
        exact this
      · by_cases hside : c.2.side = 1
        · have e3 : step3 x y z c = (2, z.left[c.2.to.toNat]?.getD default) := by unfold step3; rw [if_neg (by omega), if_pos h1, if_pos hside]
          rw [e3] at ih
          have := (ih (getD_okE hz.le hz.l hs2 hs3)).2 rfl
          have e2 : halt2 (at2 c) = some c.2 := by
            unfold halt2 at2; rw [if_pos]; refine .inr (.inr ⟨by rw [h1]; rfl, hside⟩)
          rw [Dn_stop _ _ e2]
          have e5 : halt2 (true, c.2) = none := by unfold halt2; rw [if_neg]; simp only [hside]; simp
          rw [Dn_next _ _ e5]
          have e4 : step2 (joinedT x y) z (true, c.2) = (false, z.left[c.2.to.toNat]?.getD default) := by unfold step2; rw [if_pos rfl]
          rw [e4]
          exact this
        · have hside : c.2.side = -1 := by rcases hs1 with h | h; · exact h
                                           · exact absurd h hside
          have e3 : step3 x y z c = (0, x.right[c.2.to.toNat]?.getD default) := by unfold step3; rw [if_neg (by omega), if_pos h1, if_neg (by omega)]
          rw [e3] at ih
          have := (ih (getD_okE hx.re hx.r hs2 hs3)).1 (.inl rfl)
          have e2 : halt2 (at2 c) = none := by
            unfold halt2 at2; rw [if_neg]; simp only [h1, hside]; simp
          rw [Dn_next _ _ e2]
          have e4 : step2 x y (at2 c) = (true, x.right[c.2.to.toNat]?.getD default) := by unfold step2 at2; rw [if_neg (by rw [h1]; simp)]
          rw [e4]
          exact this
    · have hside : c.2.side = -1 := by rcases hs1 with h | h; · exact h
                                       · exact absurd (.inr (.inr ⟨h2, h⟩)) hn
      have e3 : step3 x y z c = (1, y.right[c.2.to.toNat]?.getD default) := by unfold step3; rw [if_neg (by omega), if_neg (by omega)]
      rw [e3] at ih
      have := (ih (getD_okE hy.re hy.r hs2 hs3)).1 (.inr rfl)
      have e2 : halt2 (false, c.2) = none := by unfold halt2; rw [if_neg]; simp only [hside]; simp
      rw [Dn_next _ _ e2]
      have hl : c.2.to.toNat < x.left.length := by rw [hx.l]; omega
      have e5 : step2 (joinedT x y) z (false, c.2) = (true, (joinedT x y).right[c.2.to.toNat]?.getD default) := rfl
      have e4 : step2 (joinedT x y) z (false, c.2) = (true, Dn halt2 (step2 x y) (false, y.right[c.2.to.toNat]?.getD default)) := by
        rw [e5, joined_right x y _ hl, between_dn hx hy _ (getD_okE hy.re hy.r hs2 hs3)]
      rw [e4]
      exact this

/-- A run of the first two, seen from the three. -/
theorem tri_in {n : Nat} {x y z : Table} (hx : TabOk n x) (hy : TabOk n y) (q : Ext) {d : Bool × Ext} {e : Ext} (h : Ev halt2 (step2 x y) d e) : ∀ c : Nat × Ext, c.1 = 0 ∨ c.1 = 1 → d = at2 c → exitOk n c.2 →
    (e.side ≠ 1 → Ev halt3 (step3 x y z) c e) ∧ (e.side = 1 → (Ev halt3 (step3 x y z) (2, z.left[e.to.toNat]?.getD default) q → Ev halt3 (step3 x y z) c q)) := by
  induction h with
  | @stop d e h =>
    rintro c hc rfl hk
    have hr : c.2 = e := by unfold halt2 at h; split at h; · exact Option.some.inj h
                            · cases h
    have hs : c.2.side = 0 ∨ (c.1 = 0 ∧ c.2.side = -1) ∨ (c.1 = 1 ∧ c.2.side = 1) := by
      unfold halt2 at2 at h; split at h
      · rename_i hh; rcases hh with hh | ⟨h1, h2⟩ | ⟨h1, h2⟩
        · exact .inl hh
        · exact .inr (.inl ⟨by simpa using h1, h2⟩)
        · refine .inr (.inr ⟨?_, h2⟩)
          have : ¬ c.1 = 0 := by simpa using h1
          omega
      · cases h
    subst hr
    refine ⟨fun hne => .stop ?_, fun he hq => .next ?_ ?_⟩
    · unfold halt3
      rcases hs with hs | hs | hs
      · rw [if_pos (.inl hs)]
      · rw [if_pos (.inr (.inl hs))]
      · exact absurd hs.2 hne
    · unfold halt3
      rw [if_neg]
      rw [he]
      rintro (h1 | h1 | h1)
      · omega
      · omega
      · omega
    · have h1 : c.1 = 1 := by omega
      unfold step3
      rw [if_neg (by omega), if_pos h1, if_pos he]
      exact hq
  | @next d e h _ ih =>
    rintro c hc rfl hk
    rcases halt2_none h hk with ⟨h1, h2, h3, h4⟩ | ⟨h1, h2, h3, h4⟩
    · have h0 : c.1 = 0 := by unfold at2 at h1; simpa using h1
      replace h2 : c.2.side = 1 := h2
      replace h3 : 0 ≤ c.2.to := h3
      replace h4 : c.2.to < n := h4
      have e4 : step2 x y (at2 c) = (false, y.left[c.2.to.toNat]?.getD default) := by unfold step2 at2; rw [if_pos (by rw [h0]; rfl)]
      have e3 : step3 x y z c = (1, y.left[c.2.to.toNat]?.getD default) := by unfold step3; rw [if_pos h0]
      have hh : halt3 c = none := by
        unfold halt3; rw [if_neg]; omega
      obtain ⟨i1, i2⟩ := ih (1, y.left[c.2.to.toNat]?.getD default) (.inr rfl) (by rw [e4]; rfl) (getD_okE hy.le hy.l h3 h4)
      exact ⟨fun hne => .next hh (by rw [e3]; exact i1 hne), fun he hq => .next hh (by rw [e3]; exact i2 he hq)⟩
    · have h0 : c.1 = 1 := by
        have : ¬ c.1 = 0 := by unfold at2 at h1; simpa using h1
        omega
      replace h2 : c.2.side = -1 := h2
      replace h3 : 0 ≤ c.2.to := h3
      replace h4 : c.2.to < n := h4
      have e4 : step2 x y (at2 c) = (true, x.right[c.2.to.toNat]?.getD default) := by unfold step2 at2; rw [if_neg (by rw [h0]; simp)]
      have e3 : step3 x y z c = (0, x.right[c.2.to.toNat]?.getD default) := by unfold step3; rw [if_neg (by omega), if_pos h0, if_neg (by omega)]
      have hh : halt3 c = none := by
        unfold halt3; rw [if_neg]; omega
      obtain ⟨i1, i2⟩ := ih (0, x.right[c.2.to.toNat]?.getD default) (.inl rfl) (by rw [e4]; rfl) (getD_okE hx.re hx.r h3 h4)
      exact ⟨fun hne => .next hh (by rw [e3]; exact i1 hne), fun he hq => .next hh (by rw [e3]; exact i2 he hq)⟩

theorem ev2_ok {n : Nat} {x y : Table} (hx : TabOk n x) (hy : TabOk n y) {d : Bool × Ext} {e : Ext} (h : Ev halt2 (step2 x y) d e) : exitOk n d.2 → exitOk n e := by
  induction h with
  | @stop d e h =>
    intro hk
    unfold halt2 at h
    split at h
    · rw [← Option.some.inj h]; exact hk
    · cases h
  | @next d e h _ ih => exact fun hk => ih (step2_ok hx hy d hk h)

theorem tri_forth {n : Nat} {x y z : Table} (hx : TabOk n x) (hy : TabOk n y) (hz : TabOk n z) {d : Bool × Ext} {r : Ext} (h : Ev halt2 (step2 (joinedT x y) z) d r) : exitOk n d.2 → ∀ c : Nat × Ext, exitOk n c.2 →
    (d.1 = true ∧ (c.1 = 0 ∨ c.1 = 1) ∧ d.2 = Dn halt2 (step2 x y) (at2 c)) ∨ (d.1 = false ∧ c.1 = 2 ∧ d.2 = c.2) → Ev halt3 (step3 x y z) c r ∨ r = exOn := by
  induction h with
  | @stop d r h =>
    intro hd c hk hrel
    have hr : d.2 = r := by unfold halt2 at h; split at h; · exact Option.some.inj h
                            · cases h
    rcases hrel with ⟨h1, h01, h2⟩ | ⟨h1, h01, h2⟩
    · have hs : r.side ≠ 1 := by
        rw [← hr]
        unfold halt2 at h; split at h
        · rename_i hh; rcases hh with hh | ⟨-, hh⟩ | ⟨hh, -⟩
          · omega
          · omega
          · rw [h1] at hh; cases hh
        · cases h
      by_cases hev : ∃ e, Ev halt2 (step2 x y) (at2 c) e
      · obtain ⟨e, hev⟩ := hev
        rw [Dn_ev _ _ hev] at h2
        have : e = r := by rw [← h2, hr]
        subst this
        exact .inl ((tri_in (z := z) hx hy e hev c h01 rfl hk).1 hs)
      · rw [Dn_none _ _ hev] at h2
        exact .inr (by rw [← hr, h2])
    · refine .inl (.stop ?_)
      unfold halt2 at h; split at h
      · rename_i hh
        unfold halt3
        rw [← h2]
        rcases hh with hh | ⟨hh, -⟩ | ⟨-, hh⟩
        · rw [if_pos (.inl hh), hr]
        · rw [h1] at hh; cases hh
        · rw [if_pos (.inr (.inr ⟨h01, hh⟩)), hr]
      · cases h
  | @next d r h _ ih =>
    intro hd c hk hrel
    have hok := step2_ok (joined_ok hx hy) hz d hd h
    rcases halt2_none h hd with ⟨k1, k2, k3, k4⟩ | ⟨k1, k2, k3, k4⟩
    · rcases hrel with ⟨h1, h01, h2⟩ | ⟨h1, h01, h2⟩
      case inr => rw [k1] at h1; cases h1
      have e4 : step2 (joinedT x y) z d = (false, z.left[d.2.to.toNat]?.getD default) := by unfold step2; rw [if_pos k1]
      have := ih hok (2, z.left[d.2.to.toNat]?.getD default) (getD_okE hz.le hz.l k3 k4) (.inr ⟨by rw [e4], rfl, by rw [e4]⟩)
      rcases this with this | this
      · by_cases hev : ∃ e, Ev halt2 (step2 x y) (at2 c) e
        · obtain ⟨e, hev⟩ := hev
          rw [Dn_ev _ _ hev] at h2
          subst h2
          exact .inl ((tri_in (z := z) hx hy r hev c h01 rfl hk).2 k2 this)
        · rw [Dn_none _ _ hev] at h2
          rw [h2] at k2
          cases k2
      · exact .inr this
    · rcases hrel with ⟨h1, h01, h2⟩ | ⟨h1, h01, h2⟩
      · rw [k1] at h1; cases h1
      have hl : d.2.to.toNat < x.left.length := by rw [hx.l]; omega
      have e5 : step2 (joinedT x y) z d = (true, (joinedT x y).right[d.2.to.toNat]?.getD default) := by
        obtain ⟨d1, d2⟩ := d
        simp only at k1
        subst k1
        rfl
      have e4 : step2 (joinedT x y) z d = (true, Dn halt2 (step2 x y) (false, y.right[d.2.to.toNat]?.getD default)) := by
        rw [e5, joined_right x y _ hl, between_dn hx hy _ (getD_okE hy.re hy.r k3 k4)]
      have := ih hok (1, y.right[d.2.to.toNat]?.getD default) (getD_okE hy.re hy.r k3 k4) (.inl ⟨by rw [e4], .inr rfl, by rw [e4]; rfl⟩)
      rcases this with this | this
      · refine .inl (.next ?_ ?_)
        · unfold halt3; rw [← h2, if_neg]; omega
        · unfold step3
          rw [if_neg (by omega), if_neg (by omega), ← h2]
          exact this
      · exact .inr this

theorem tri_eq {n : Nat} {x y z : Table} (hx : TabOk n x) (hy : TabOk n y) (hz : TabOk n z) (d : Bool × Ext) (hd : exitOk n d.2) (c : Nat × Ext) (hc : exitOk n c.2)
    (h : (d.1 = true ∧ (c.1 = 0 ∨ c.1 = 1) ∧ d.2 = Dn halt2 (step2 x y) (at2 c)) ∨ (d.1 = false ∧ c.1 = 2 ∧ d.2 = c.2)) : Dn halt2 (step2 (joinedT x y) z) d = Dn halt3 (step3 x y z) c := by
  by_cases h3 : ∃ r, Ev halt3 (step3 x y z) c r
  · obtain ⟨r, h3⟩ := h3
    rw [Dn_ev _ _ h3]
    obtain ⟨b1, b2⟩ := tri_back hx hy hz h3 hc
    obtain ⟨d1, d2⟩ := d
    rcases h with ⟨k1, k2, k3⟩ | ⟨k1, k2, k3⟩
    · simp only at k1 k3
      subst k1 k3
      exact b1 k2
    · simp only at k1 k3
      subst k1 k3
      exact b2 k2
  · rw [Dn_none _ _ h3]
    by_cases h2 : ∃ r, Ev halt2 (step2 (joinedT x y) z) d r
    · obtain ⟨r, h2⟩ := h2
      rcases tri_forth hx hy hz h2 hd c hc h with h4 | h4
      · exact absurd ⟨r, h4⟩ h3
      · rw [Dn_ev _ _ h2, h4]
    · exact Dn_none _ _ h2

/-! The other way round. -/
def flipE (e : Ext) : Ext := ⟨-e.side, e.to⟩
def turnT (x : Table) : Table := ⟨x.right.map flipE, x.left.map flipE⟩

theorem flipE_flip (e : Ext) : flipE (flipE e) = e := by cases e; unfold flipE; simp
theorem turnT_turn (x : Table) : turnT (turnT x) = x := by
  cases x with | mk l r =>
  unfold turnT
  simp only [List.map_map]
  have : flipE ∘ flipE = id := by funext e; exact flipE_flip e
  rw [this, List.map_id, List.map_id]
theorem flipE_ok {n : Nat} {e : Ext} (h : exitOk n e) : exitOk n (flipE e) := by
  unfold exitOk flipE at *
  simp only
  omega
theorem turnT_ok {n : Nat} {x : Table} (h : TabOk n x) : TabOk n (turnT x) := by
  refine ⟨h.n1, by unfold turnT; simp [h.r], by unfold turnT; simp [h.l], fun e he => ?_, fun e he => ?_⟩
  · obtain ⟨a, ha, rfl⟩ := List.mem_map.1 he; exact flipE_ok (h.re a ha)
  · obtain ⟨a, ha, rfl⟩ := List.mem_map.1 he; exact flipE_ok (h.le a ha)
theorem getD_flip {n : Nat} (l : List Ext) (k : Nat) (hl : l.length = n) (h : k < n) : (l.map flipE)[k]?.getD default = flipE (l[k]?.getD default) := by
  rw [List.getElem?_map, List.getElem?_eq_getElem (by omega)]; rfl

theorem flipE_on : flipE exOn = exOn := rfl

theorem flip2 {n : Nat} {x y : Table} (hx : TabOk n x) (hy : TabOk n y) : ∀ (f : Nat) (c : Bool × Ext), exitOk n c.2 → goF halt2 (step2 (turnT y) (turnT x)) f (!c.1, flipE c.2) = flipE (goF halt2 (step2 x y) f c)
  | 0, _, _ => rfl
  | f + 1, c, hk => by
    unfold goF
    cases hc : halt2 c with
    | some r =>
      have hr : c.2 = r ∧ (c.2.side = 0 ∨ (c.1 = true ∧ c.2.side = -1) ∨ (c.1 = false ∧ c.2.side = 1)) := by
        unfold halt2 at hc; split at hc
        · rename_i hh; exact ⟨Option.some.inj hc, hh⟩
        · cases hc
      obtain ⟨hr, hh⟩ := hr
      have : halt2 (!c.1, flipE c.2) = some (flipE r) := by
        unfold halt2 flipE
        rw [← hr]
        rw [if_pos]
        simp only
        rcases hh with hh | ⟨h1, hh⟩ | ⟨h1, hh⟩
        · exact .inl (by omega)
        · exact .inr (.inr ⟨by rw [h1]; rfl, by omega⟩)
        · exact .inr (.inl ⟨by rw [h1]; rfl, by omega⟩)
      rw [this]
    | none =>
      have hcases := halt2_none hc hk
      have h2 : halt2 (!c.1, flipE c.2) = none := by
        unfold halt2 flipE
        rw [if_neg]
        simp only
        rcases hcases with ⟨h1, hh, -⟩ | ⟨h1, hh, -⟩
        · rw [h1, hh]; simp
        · rw [h1, hh]; simp
      rw [h2]
      simp only
      have h3 : step2 (turnT y) (turnT x) (!c.1, flipE c.2) = (!(step2 x y c).1, flipE (step2 x y c).2) := by
        obtain ⟨b, s, t⟩ := c
        simp only at hcases
        rcases hcases with ⟨h1, hh, h5, h6⟩ | ⟨h1, hh, h5, h6⟩
        · subst h1
          show (true, (y.left.map flipE)[t.toNat]?.getD default) = (true, flipE (y.left[t.toNat]?.getD default))
          rw [getD_flip y.left _ hy.l (by omega)]
        · subst h1
          show (false, (x.right.map flipE)[t.toNat]?.getD default) = (false, flipE (x.right[t.toNat]?.getD default))
          rw [getD_flip x.right _ hx.r (by omega)]
      rw [h3]
      exact flip2 hx hy f _ (step2_ok hx hy c hk hc)

theorem turn_joined {n : Nat} {x y : Table} (hx : TabOk n x) (hy : TabOk n y) : joinedT (turnT y) (turnT x) = turnT (joinedT x y) := by
  have hl : (turnT y).left.length = n := (turnT_ok hy).l
  have e1 : (joinedT (turnT y) (turnT x)).left = (turnT (joinedT x y)).left := by
    unfold turnT joinedT
    simp only [List.map_map, List.length_map]
    rw [hy.r, hx.l]
    refine List.map_congr_left fun s hs => ?_
    have hs := List.mem_range.1 hs
    have hyr := getD_okE hy.re hy.r (k := s) (by omega) (by omega)
    rw [Int.toNat_natCast] at hyr
    have := flip2 hx hy (2 * n + 2) (false, y.right[s]?.getD default) hyr
    show betweenT (turnT y) (turnT x) _ true = flipE (betweenT x y _ false)
    unfold betweenT
    rw [hl, hx.l, getD_flip y.right s hy.r hs]
    exact this
  have e2 : (joinedT (turnT y) (turnT x)).right = (turnT (joinedT x y)).right := by
    unfold turnT joinedT
    simp only [List.map_map, List.length_map]
    rw [hy.r, hx.l]
    refine List.map_congr_left fun s hs => ?_
    have hs := List.mem_range.1 hs
    have hxl := getD_okE hx.le hx.l (k := s) (by omega) (by omega)
    rw [Int.toNat_natCast] at hxl
    have := flip2 hx hy (2 * n + 2) (true, x.left[s]?.getD default) hxl
    show betweenT (turnT y) (turnT x) _ false = flipE (betweenT x y _ true)
    unfold betweenT
    rw [hl, hx.l, getD_flip x.left s hx.l hs]
    exact this
  generalize joinedT (turnT y) (turnT x) = a at *
  generalize turnT (joinedT x y) = b at *
  cases a; cases b
  simp only at e1 e2
  rw [e1, e2]

/-- The join of three, from the machine of three. -/
noncomputable def triT (n : Nat) (x y z : Table) : Table := ⟨(List.range n).map fun s => Dn halt3 (step3 x y z) (0, x.left[s]?.getD default), (List.range n).map fun s => Dn halt3 (step3 x y z) (2, z.right[s]?.getD default)⟩

theorem tri_joined {n : Nat} {x y z : Table} (hx : TabOk n x) (hy : TabOk n y) (hz : TabOk n z) : joinedT (joinedT x y) z = triT n x y z := by
  have hj := joined_ok hx hy
  unfold triT
  rw [show joinedT (joinedT x y) z = ⟨_, _⟩ from rfl, hj.l, Table.mk.injEq]
  refine ⟨List.map_congr_left fun s hs => ?_, List.map_congr_left fun s hs => ?_⟩
  · have hs := List.mem_range.1 hs
    have hxl := getD_okE hx.le hx.l (k := s) (by omega) (by omega)
    rw [Int.toNat_natCast] at hxl
    have hjl := getD_okE hj.le hj.l (k := s) (by omega) (by omega)
    rw [Int.toNat_natCast] at hjl
    rw [between_dn hj hz _ hjl]
    refine tri_eq hx hy hz _ hjl (0, x.left[s]?.getD default) hxl (.inl ⟨rfl, .inl rfl, ?_⟩)
    show (joinedT x y).left[s]?.getD default = _
    rw [joined_left x y s (by rw [hx.l]; exact hs), between_dn hx hy _ hxl]
    rfl
  · have hs := List.mem_range.1 hs
    have hzr := getD_okE hz.re hz.r (k := s) (by omega) (by omega)
    rw [Int.toNat_natCast] at hzr
    rw [between_dn hj hz _ hzr]
    exact tri_eq hx hy hz _ hzr (2, z.right[s]?.getD default) hzr (.inr ⟨rfl, rfl, rfl⟩)

def mir3 (c : Nat × Ext) : Nat × Ext := (2 - c.1, flipE c.2)

theorem mir_ev {n : Nat} {x y z : Table} (hx : TabOk n x) (hy : TabOk n y) (hz : TabOk n z) {c : Nat × Ext} {r : Ext} (h : Ev halt3 (step3 x y z) c r) : c.1 ≤ 2 → exitOk n c.2 → Ev halt3 (step3 (turnT z) (turnT y) (turnT x)) (mir3 c) (flipE r) := by
  induction h with
  | @stop c r h =>
    intro hc hk
    refine .stop ?_
    unfold halt3 at h
    split at h
    · rename_i hh
      rw [← Option.some.inj h]
      unfold halt3 mir3
      rw [if_pos]
      unfold flipE
      simp only
      omega
    · cases h
  | @next c r h _ ih =>
    intro hc hk
    have hn : ¬ (c.2.side = 0 ∨ (c.1 = 0 ∧ c.2.side = -1) ∨ (c.1 = 2 ∧ c.2.side = 1)) := by
      intro hh; unfold halt3 at h; rw [if_pos hh] at h; cases h
    have hs : (c.2.side = -1 ∨ c.2.side = 1) ∧ 0 ≤ c.2.to ∧ c.2.to < n := by
      rcases hk with hk | hk
      · exact absurd (.inl hk.1) hn
      · exact hk
    obtain ⟨hs1, hs2, hs3⟩ := hs
    have hkk : c.2.to.toNat < n := by omega
    have h2 : halt3 (mir3 c) = none := by
      unfold halt3 mir3
      rw [if_neg]
      unfold flipE
      simp only
      omega
    obtain ⟨a, s, t⟩ := c
    simp only at hs1 hs2 hs3 hc hn hkk
    have hst : step3 (turnT z) (turnT y) (turnT x) (mir3 (a, ⟨s, t⟩)) = mir3 (step3 x y z (a, ⟨s, t⟩)) ∧ (step3 x y z (a, ⟨s, t⟩)).1 ≤ 2 ∧ exitOk n (step3 x y z (a, ⟨s, t⟩)).2 := by
      have ha : a = 0 ∨ a = 1 ∨ a = 2 := by omega
      rcases ha with rfl | rfl | rfl
      · refine ⟨?_, by simp [step3], by simpa [step3] using getD_okE hy.le hy.l hs2 hs3⟩
        have := getD_flip y.left _ hy.l hkk
        rw [List.getElem?_map] at this
        simpa [step3, mir3, turnT, show ∀ s t, flipE ⟨s, t⟩ = ⟨-s, t⟩ from fun _ _ => rfl] using this
      · rcases hs1 with rfl | rfl
        · refine ⟨?_, by simp [step3], by simpa [step3] using getD_okE hx.re hx.r hs2 hs3⟩
          have := getD_flip x.right _ hx.r hkk
          rw [List.getElem?_map] at this
          simpa [step3, mir3, turnT, show ∀ s t, flipE ⟨s, t⟩ = ⟨-s, t⟩ from fun _ _ => rfl] using this
        · refine ⟨?_, by simp [step3], by simpa [step3] using getD_okE hz.le hz.l hs2 hs3⟩
          have := getD_flip z.left _ hz.l hkk
          rw [List.getElem?_map] at this
          simpa [step3, mir3, turnT, show ∀ s t, flipE ⟨s, t⟩ = ⟨-s, t⟩ from fun _ _ => rfl] using this
      · refine ⟨?_, by simp [step3], by simpa [step3] using getD_okE hy.re hy.r hs2 hs3⟩
        have := getD_flip y.right _ hy.r hkk
        rw [List.getElem?_map] at this
        simpa [step3, mir3, turnT, show ∀ s t, flipE ⟨s, t⟩ = ⟨-s, t⟩ from fun _ _ => rfl] using this
    refine .next h2 ?_
    rw [hst.1]
    exact ih hst.2.1 hst.2.2

theorem mir_dn {n : Nat} {x y z : Table} (hx : TabOk n x) (hy : TabOk n y) (hz : TabOk n z) (c : Nat × Ext) (hc : c.1 ≤ 2) (hk : exitOk n c.2) : Dn halt3 (step3 (turnT z) (turnT y) (turnT x)) (mir3 c) = flipE (Dn halt3 (step3 x y z) c) := by
  by_cases h : ∃ r, Ev halt3 (step3 x y z) c r
  · obtain ⟨r, h⟩ := h
    rw [Dn_ev _ _ h, Dn_ev _ _ (mir_ev hx hy hz h hc hk)]
  · rw [Dn_none _ _ h, Dn_none]
    · rfl
    rintro ⟨r, hr⟩
    have := mir_ev (turnT_ok hz) (turnT_ok hy) (turnT_ok hx) hr (by unfold mir3; simp only; omega) (flipE_ok hk)
    rw [turnT_turn, turnT_turn, turnT_turn] at this
    refine h ⟨flipE r, ?_⟩
    have e : mir3 (mir3 c) = c := by
      obtain ⟨a, s, t⟩ := c
      simp only at hc
      unfold mir3
      simp only [flipE_flip]
      rw [show 2 - (2 - a) = a from by omega]
    rw [e] at this
    exact this

theorem tri_turn {n : Nat} {x y z : Table} (hx : TabOk n x) (hy : TabOk n y) (hz : TabOk n z) : triT n (turnT z) (turnT y) (turnT x) = turnT (triT n x y z) := by
  show (⟨_, _⟩ : Table) = ⟨((List.range n).map fun s => Dn halt3 (step3 x y z) (2, z.right[s]?.getD default)).map flipE, ((List.range n).map fun s => Dn halt3 (step3 x y z) (0, x.left[s]?.getD default)).map flipE⟩
  rw [Table.mk.injEq, List.map_map, List.map_map]
  refine ⟨List.map_congr_left fun s hs => ?_, List.map_congr_left fun s hs => ?_⟩
  · have hs := List.mem_range.1 hs
    have hzr := getD_okE hz.re hz.r (k := s) (by omega) (by omega)
    rw [Int.toNat_natCast] at hzr
    have := mir_dn hx hy hz (2, z.right[s]?.getD default) (by simp) hzr
    rw [show (turnT z).left[s]?.getD default = flipE (z.right[s]?.getD default) from getD_flip z.right s hz.r hs]
    exact this
  · have hs := List.mem_range.1 hs
    have hxl := getD_okE hx.le hx.l (k := s) (by omega) (by omega)
    rw [Int.toNat_natCast] at hxl
    have := mir_dn hx hy hz (0, x.left[s]?.getD default) (by simp) hxl
    rw [show (turnT x).right[s]?.getD default = flipE (x.left[s]?.getD default) from getD_flip x.left s hx.l hs]
    exact this

theorem joined_assoc {n : Nat} {x y z : Table} (hx : TabOk n x) (hy : TabOk n y) (hz : TabOk n z) : joinedT (joinedT x y) z = joinedT x (joinedT y z) := by
  rw [tri_joined hx hy hz, ← turnT_turn (joinedT x (joinedT y z)), ← turn_joined hx (joined_ok hy hz), ← turn_joined hy hz,
    tri_joined (turnT_ok hz) (turnT_ok hy) (turnT_ok hx), tri_turn hx hy hz, turnT_turn]

/-! The empty word. -/
def emptyT (n : Nat) : Table := ⟨(List.range n).map fun (s : Nat) => ⟨1, (s : Int)⟩, (List.range n).map fun (s : Nat) => ⟨-1, (s : Int)⟩⟩

theorem emptyT_ok {n : Nat} (h : 1 ≤ n) : TabOk n (emptyT n) := by
  refine ⟨h, by simp [emptyT], by simp [emptyT], fun e he => ?_, fun e he => ?_⟩
  · obtain ⟨s, hs, rfl⟩ := List.mem_map.1 he
    have := List.mem_range.1 hs
    exact .inr ⟨.inr rfl, by simp only; omega, by simp only; omega⟩
  · obtain ⟨s, hs, rfl⟩ := List.mem_map.1 he
    have := List.mem_range.1 hs
    exact .inr ⟨.inl rfl, by simp only; omega, by simp only; omega⟩

theorem emptyT_turn (n : Nat) : turnT (emptyT n) = emptyT n := by
  unfold turnT emptyT
  simp only [List.map_map, Table.mk.injEq]
  exact ⟨List.map_congr_left fun s _ => rfl, List.map_congr_left fun s _ => rfl⟩

theorem emptyT_left (n s : Nat) (h : s < n) : (emptyT n).left[s]?.getD default = ⟨1, s⟩ := by unfold emptyT; rw [List.getElem?_map, List.getElem?_range h]; rfl
theorem emptyT_right (n s : Nat) (h : s < n) : (emptyT n).right[s]?.getD default = ⟨-1, s⟩ := by unfold emptyT; rw [List.getElem?_map, List.getElem?_range h]; rfl

theorem list_range_getD {l : List Ext} {n : Nat} (h : l.length = n) : (List.range n).map (fun s => l[s]?.getD default) = l := by
  apply List.ext_getElem
  · simp [h]
  · intro i h1 h2
    simp [List.getElem?_eq_getElem h2]

theorem exit_cases {n : Nat} {e : Ext} (h : exitOk n e) : e.side = 0 ∨ e.side = -1 ∨ e.side = 1 := by
  rcases h with h | h
  · exact .inl h.1
  · exact .inr h.1

theorem empty_joined {n : Nat} {x : Table} (hx : TabOk n x) : joinedT (emptyT n) x = x := by
  have he := emptyT_ok hx.n1
  obtain ⟨l, r⟩ := x
  rw [show joinedT (emptyT n) ⟨l, r⟩ = ⟨_, _⟩ from rfl, he.l, Table.mk.injEq]
  refine ⟨Eq.trans (List.map_congr_left fun s hs => ?_) (list_range_getD hx.l), Eq.trans (List.map_congr_left fun s hs => ?_) (list_range_getD hx.r)⟩
  · have hs := List.mem_range.1 hs
    have hxl := getD_okE hx.le hx.l (k := s) (by omega) (by omega)
    rw [Int.toNat_natCast] at hxl
    rw [emptyT_left n s hs, between_dn he hx _ (.inr ⟨.inr rfl, by simp only; omega, by simp only; omega⟩)]
    rw [Dn_next _ _ (by unfold halt2; rw [if_neg (by simp)])]
    rw [show step2 (emptyT n) ⟨l, r⟩ (true, ⟨1, (s : Int)⟩) = (false, l[s]?.getD default) from by unfold step2; rw [if_pos rfl, Int.toNat_natCast]]
    generalize l[s]?.getD default = e at hxl
    by_cases h1 : e.side = -1
    · obtain ⟨sd, t⟩ := e
      simp only at h1
      subst h1
      have ht : 0 ≤ t ∧ t < n := by
        rcases hxl with h | h
        · exact absurd h.1 (by simp)
        · exact h.2
      rw [Dn_next _ _ (by unfold halt2; rw [if_neg (by simp)])]
      rw [show step2 (emptyT n) ⟨l, r⟩ (false, ⟨-1, t⟩) = (true, ⟨-1, t⟩) from by
        unfold step2
        rw [if_neg (fun e => Bool.noConfusion e)]
        simp only
        rw [emptyT_right n _ (by omega), Int.toNat_of_nonneg ht.1]]
      exact Dn_stop _ _ (by unfold halt2; rw [if_pos (.inr (.inl ⟨rfl, rfl⟩))])
    · refine Dn_stop _ _ ?_
      unfold halt2
      rw [if_pos]
      rcases exit_cases hxl with h | h | h
      · exact .inl h
      · exact absurd h h1
      · exact .inr (.inr ⟨rfl, h⟩)
  · have hs := List.mem_range.1 hs
    have hxr := getD_okE hx.re hx.r (k := s) (by omega) (by omega)
    rw [Int.toNat_natCast] at hxr
    rw [between_dn he hx _ hxr]
    simp only
    generalize r[s]?.getD default = e at hxr
    by_cases h1 : e.side = -1
    · obtain ⟨sd, t⟩ := e
      simp only at h1
      subst h1
      have ht : 0 ≤ t ∧ t < n := by
        rcases hxr with h | h
        · exact absurd h.1 (by simp)
        · exact h.2
      rw [Dn_next _ _ (by unfold halt2; rw [if_neg (by simp)])]
      rw [show step2 (emptyT n) ⟨l, r⟩ (false, ⟨-1, t⟩) = (true, ⟨-1, t⟩) from by
        unfold step2
        rw [if_neg (fun e => Bool.noConfusion e)]
        simp only
        rw [emptyT_right n _ (by omega), Int.toNat_of_nonneg ht.1]]
      exact Dn_stop _ _ (by unfold halt2; rw [if_pos (.inr (.inl ⟨rfl, rfl⟩))])
    · refine Dn_stop _ _ ?_
      unfold halt2
      rw [if_pos]
      rcases exit_cases hxr with h | h | h
      · exact .inl h
      · exact absurd h h1
      · exact .inr (.inr ⟨rfl, h⟩)

theorem joined_empty {n : Nat} {x : Table} (hx : TabOk n x) : joinedT x (emptyT n) = x := by
  rw [← turnT_turn (joinedT x (emptyT n)), ← turn_joined hx (emptyT_ok hx.n1), emptyT_turn, empty_joined (turnT_ok hx), turnT_turn]

end Go.Proofs.YtbiagkbjhdidjaaDoor
