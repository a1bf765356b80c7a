/-
  Plain lemmas: as XCalm, and a maker of memory may change what lies there (an append in place), where each other operation is ahead of it, behind it, or yields one value in every world (written in part by a program of this claim's own, gen_calmp.py).
-/
import Derived.Test.YtcifdkliiljmkaaGreatDoorCalmK
namespace Go.Proofs.YtcifdkliiljmkaaGreatDoor
open Go.RowKit

section
variable {P : Program} {ops : Array Oper} {Q : Exit → Act → World → Prop} {md : Region.Mode} {ps : List Nat}

def waitsB (md : Region.Mode) (ops : Array Oper) (k i : Nat) : Bool := match ops[k]? with | some o => o.after.any fun e => Region.binds md e && e.on == i | none => false
def okA (md : Region.Mode) (ops : Array Oper) : List Nat → List Nat → Bool
  | _, [] => true
  | acc, i :: l => (acc.any fun k => waitsB md ops k i) && okA md ops (i :: acc) l
def okD (md : Region.Mode) (ops : Array Oper) : List Nat → List Nat → Bool
  | _, [] => true
  | acc, i :: l => (acc.any fun k => waitsB md ops i k) && okD md ops (i :: acc) l
def ancL (md : Region.Mode) (ops : Array Oper) (j : Nat) : List Nat := (List.range j).reverse.foldl (fun acc i => if (j :: acc).any (fun k => waitsB md ops k i) then acc ++ [i] else acc) []
def desL (md : Region.Mode) (ops : Array Oper) (j : Nat) : List Nat := (List.range ops.size).foldl (fun acc i => if decide (j < i) && (j :: acc).any (fun k => waitsB md ops i k) then acc ++ [i] else acc) []
def aloneB (md : Region.Mode) (ops : Array Oper) (ps : List Nat) (j : Nat) : Bool :=
  okA md ops [j] (ancL md ops j) && (okD md ops [j] (desL md ops j) && (List.range ops.size).all fun i => i == j || (ps.contains i || ((ancL md ops j).contains i || (desL md ops j).contains i)))

/-- Where it is ready, no other is, but those of ps. -/
def AloneP (md : Region.Mode) (ops : Array Oper) (ps : List Nat) (j : Nat) : Prop := ∀ listed : Array Bool, Closed md ops listed → j ∈ Region.ready md ops listed → ∀ i, i ≠ j → ps.contains i = false → i ∈ Region.ready md ops listed → False

theorem waits_of {k i : Nat} (h : waitsB md ops k i = true) : ∃ o e, ops[k]? = some o ∧ e ∈ o.after ∧ Region.binds md e = true ∧ e.on = i := by
  unfold waitsB at h
  cases ho : ops[k]? with
  | none => rw [ho] at h; cases h
  | some o =>
    rw [ho] at h
    obtain ⟨e, he, hb⟩ := Array.any_eq_true'.1 h
    rw [Bool.and_eq_true, beq_iff_eq] at hb
    exact ⟨o, e, rfl, he, hb.1, hb.2⟩

theorem okA_listed {listed : Array Bool} (hc : Closed md ops listed) : ∀ (l acc : List Nat), okA md ops acc l = true → (∀ k, k ∈ acc → ∀ o e, ops[k]? = some o → e ∈ o.after → Region.binds md e = true → listed.getD e.on false = true) → ∀ i, i ∈ l → listed.getD i false = true
  | [], _, _, _, i, hi => by cases hi
  | a :: l, acc, h, ha, i, hi => by
    unfold okA at h
    rw [Bool.and_eq_true] at h
    obtain ⟨k, hk, hw⟩ := List.any_eq_true.1 h.1
    obtain ⟨o, e, ho, he, hb, rfl⟩ := waits_of hw
    have hl := ha k hk o e ho he hb
    rcases List.mem_cons.1 hi with rfl | hi
    · exact hl
    · refine okA_listed hc l _ h.2 (fun k' hk' o' e' ho' he' hb' => ?_) i hi
      rcases List.mem_cons.1 hk' with rfl | hk'
      · exact hc _ o' ho' hl e' he' hb'
      · exact ha k' hk' o' e' ho' he' hb'

theorem okD_unready {listed : Array Bool} (hc : Closed md ops listed) : ∀ (l acc : List Nat), okD md ops acc l = true → (∀ k, k ∈ acc → listed.getD k false = false) → ∀ i, i ∈ l → i ∈ Region.ready md ops listed → False
  | [], _, _, _, i, hi, _ => by cases hi
  | a :: l, acc, h, ha, i, hi, hr => by
    unfold okD at h
    rw [Bool.and_eq_true] at h
    obtain ⟨k, hk, hw⟩ := List.any_eq_true.1 h.1
    obtain ⟨o, e, ho, he, hb, rfl⟩ := waits_of hw
    have hun := ha _ hk
    rcases List.mem_cons.1 hi with rfl | hi
    · obtain ⟨-, o', ho', hall⟩ := mem_ready.1 hr
      rw [ho] at ho'
      obtain rfl := Option.some.inj ho'
      rw [hall e he hb] at hun
      cases hun
    · refine okD_unready hc l _ h.2 (fun k' hk' => ?_) i hi hr
      rcases List.mem_cons.1 hk' with rfl | hk'
      · cases hx : listed.getD k' false
        · rfl
        · rw [hc _ o ho hx e he hb] at hun
          cases hun
      · exact ha k' hk'

theorem alone_of {j : Nat} (h : aloneB md ops ps j = true) : AloneP md ops ps j := by
  intro listed hc hj i hij hps hi
  unfold aloneB at h
  rw [Bool.and_eq_true, Bool.and_eq_true] at h
  obtain ⟨h1, h2, h3⟩ := h
  obtain ⟨hju, oj, hoj, hallj⟩ := mem_ready.1 hj
  obtain ⟨hiu, oi, hoi, halli⟩ := mem_ready.1 hi
  have hlt : i < ops.size := (Array.getElem?_eq_some_iff.1 hoi).1
  have h4 := List.all_eq_true.1 h3 i (List.mem_range.2 hlt)
  rw [Bool.or_eq_true, Bool.or_eq_true, Bool.or_eq_true, beq_iff_eq] at h4
  have un : ∀ k, listed.getD k true = false → listed.getD k false = false := fun k hk => by
    rw [Array.getD_eq_getD_getElem?] at hk ⊢
    cases hx : listed[k]? with
    | none => rfl
    | some b => rw [hx] at hk; exact hk
  rcases h4 with h4 | h4 | h4 | h4
  · exact hij h4
  · rw [hps] at h4; cases h4
  · have := okA_listed hc _ _ h1 (fun k hk o e ho he hb => by
      obtain rfl : k = j := by simpa using hk
      rw [hoj] at ho
      obtain rfl := Option.some.inj ho
      exact hallj e he hb) i (List.contains_iff_mem.1 h4)
    rw [un i hiu] at this
    cases this
  · exact okD_unready hc _ _ h2 (fun k hk => by
      obtain rfl : k = j := by simpa using hk
      exact un _ hju) i (List.contains_iff_mem.1 h4) hi

/-- The memory below N is as it was. -/
structure leN (N : Nat) (w w' : World) : Prop where
  lo : N ≤ w.heap.size
  hi : N ≤ w'.heap.size
  os : w'.os = w.os
  tape : w'.tape = w.tape
  output : w'.output = w.output
  block : ∀ k, k < N → w'.heap[k]? = w.heap[k]?
theorem leN.refl {N : Nat} {w : World} (h : N ≤ w.heap.size) : leN N w w := ⟨h, h, rfl, rfl, rfl, fun _ _ => rfl⟩
theorem leN.trans {N : Nat} {w w1 w2 : World} (h : leN N w w1) (k : leN N w1 w2) : leN N w w2 := ⟨h.lo, k.hi, k.os.trans h.os, k.tape.trans h.tape, k.output.trans h.output, fun i hi => (k.block i hi).trans (h.block i hi)⟩
theorem leN.symm {N : Nat} {w w1 : World} (h : leN N w w1) : leN N w1 w := ⟨h.hi, h.lo, h.os.symm, h.tape.symm, h.output.symm, fun i hi => (h.block i hi).symm⟩
theorem leN.of_below {N B : Nat} {w w1 : World} (h : N ≤ w.heap.size) (hB : N ≤ B) (b : Below B w w1) : leN N w w1 := ⟨h, Nat.le_trans h b.size, b.os, b.tape, b.output, fun i hi => b.block i (Nat.lt_of_lt_of_le hi hB)⟩
theorem leN.of_le {N : Nat} {w w1 : World} (h : N ≤ w.heap.size) (b : le w w1) : leN N w w1 := leN.of_below h h b
theorem leN.to_le {w w1 : World} (h : leN w.heap.size w w1) : le w w1 := ⟨h.os, h.tape, h.output, h.hi, h.block⟩

def YieldsN (N : Nat) (P : Program) (ops : Array Oper) (o : Oper) (v : Value) (a : Act) (w : World) : Prop :=
  (Region.wanted o (yielded ops a.tmps) = true ∧ ∀ x, leN N w x → YAt P x v ((execOp a.eval o).run P x)) ∨
  (Region.wanted o (yielded ops a.tmps) = false ∧ v = undef)

theorem YieldsN.up {N : Nat} {o : Oper} {v : Value} {a : Act} {w w' : World} (h : YieldsN N P ops o v a w) (b : leN N w w') : YieldsN N P ops o v a w' := by
  rcases h with ⟨h1, h2⟩ | h
  · exact .inl ⟨h1, fun x hx => h2 x (b.trans hx)⟩
  · exact .inr h

theorem YieldsN.of_same {N : Nat} {o : Oper} {v : Value} {a a' : Act} {w : World} (hy : YieldsN N P ops o v a w) (he : execOp a'.eval o = execOp a.eval o)
    (hw : Region.wanted o (yielded ops a'.tmps) = Region.wanted o (yielded ops a.tmps)) : YieldsN N P ops o v a' w := by
  unfold YieldsN at *
  rw [he, hw]
  exact hy

theorem YieldsN.wpOp {N i : Nat} {o : Oper} {v : Value} {a : Act} {w x : World} (hi : ops[i]? = some o) (hy : YieldsN N P ops o v a w) (hx : leN N w x)
    {K : Act → World → Prop} (h : ∀ x', le x x' → K (a.put o.dst v) x') : wpOp P ops Q i K a x := by
  unfold Go.wpOp
  simp only [hi]
  rcases hy with ⟨hw, hv⟩ | ⟨hw, rfl⟩
  · simp only [hw, if_true]
    have hv := hv x hx
    refine .inl ?_
    unfold Oper.wp
    generalize (execOp a.eval o).run P x = r at *
    cases r with
    | ok n x' =>
      cases n <;> simp only [YAt] at hv <;> simp only [Oper.upon]
      case value u => obtain ⟨rfl, rfl⟩ := hv; exact h _ (le.refl _)
      case skip => obtain ⟨rfl, rfl⟩ := hv; exact h _ (le.refl _)
      case enter f args =>
        obtain ⟨rfl, hc⟩ := hv
        exact hc.mono fun e x'' ⟨he, hb⟩ => by subst he; exact h _ hb
    | halt y x' => simp only [YAt] at hv
  · simp only [hw, Bool.false_eq_true, if_false]; exact h _ (le.refl _)

/-- Whatever order is picked from here on, in every world that holds what this one holds. -/
def wpP (P : Program) (md : Region.Mode) (ops : Array Oper) (Q : Exit → Act → World → Prop) (ps : List Nat) (N : Nat) : Nat → Array Bool → Act → World → Prop
  | 0, listed, a, w => Region.ready md ops listed = [] ∧ ∀ w', le w w' → Q .normal a w'
  | fuel + 1, listed, a, w =>
    (Region.ready md ops listed = [] → ∀ w', le w w' → Q .normal a w') ∧
    ∀ i ∈ Region.ready md ops listed, ∀ w', le w w' → wpOp P ops Q i (fun a' x => ((AloneP md ops ps i ∧ N ≤ x.heap.size) ∨ leN N w' x) ∧ wpP P md ops Q ps N fuel (listed.setIfInBounds i true) a' x) a w'

theorem wpP_any {N : Nat} : ∀ (fuel : Nat) (listed : Array Bool) (a : Act) (w : World), N ≤ w.heap.size → wpP P md ops Q ps N fuel listed a w → wpAny P md ops Q fuel listed a w
  | 0, _, _, _, hN, h => ⟨h.1, h.2 _ (le.refl _)⟩
  | fuel + 1, _, _, _, hN, h => ⟨fun h0 => h.1 h0 _ (le.refl _), fun i hi => wpOp_mono (fun a' w' h' => wpP_any fuel _ a' w' (by rcases h'.1 with h1 | h1; exact h1.2; exact h1.hi) h'.2) (h.2 i hi _ (le.refl _))⟩

theorem wpP_up {N : Nat} : ∀ {fuel : Nat} {listed : Array Bool} {a : Act} {w w' : World}, wpP P md ops Q ps N fuel listed a w → le w w' → wpP P md ops Q ps N fuel listed a w'
  | 0, _, _, _, _, h, b => ⟨h.1, fun _ b' => h.2 _ (b.trans b')⟩
  | _ + 1, _, _, _, _, h, b => ⟨fun h0 _ b' => h.1 h0 _ (b.trans b'), fun i hi _ b' => h.2 i hi _ (b.trans b')⟩

/-- What an operation yields, in every later world; in every world at all, if p. -/
def YY (N : Nat) (P : Program) (ops : Array Oper) (p : Bool) (o : Oper) (v : Value) (a : Act) (w : World) : Prop := ∀ w0, (p = true ∨ w0 = w) → YieldsN N P ops o v a w0
theorem YY.now {N : Nat} {p : Bool} {o : Oper} {v : Value} {a : Act} {w : World} (h : YY N P ops p o v a w) : YieldsN N P ops o v a w := h w (.inr rfl)
theorem YY.up {N : Nat} {p : Bool} {o : Oper} {v : Value} {a : Act} {w w' : World} (h : YY N P ops p o v a w) (b : leN N w w') : YY N P ops p o v a w' := fun w0 hw => by
  rcases hw with hp | rfl
  · exact h w0 (.inl hp)
  · exact h.now.up b
theorem YY.any {N : Nat} {p : Bool} {o : Oper} {v : Value} {a : Act} {w w' : World} (h : YY N P ops p o v a w) (hp : p = true) : YY N P ops p o v a w' := fun w0 _ => h w0 (.inl hp)
theorem YY.of_same {N : Nat} {p : Bool} {o : Oper} {v : Value} {a a' : Act} {w : World} (hy : YY N P ops p o v a w) (he : execOp a'.eval o = execOp a.eval o)
    (hw : Region.wanted o (yielded ops a'.tmps) = Region.wanted o (yielded ops a.tmps)) : YY N P ops p o v a' w := fun w0 h0 => (hy w0 h0).of_same he hw

/-- Another operation, apart from it, comes up ahead of it. -/
theorem wpOp_putP {j : Nat} {N : Nat} {p : Bool} {oi oj : Oper} {v : Value} (hj : ops[j]? = some oj) (hap : oi.apart ops oj = true)
    (hsi : ∀ cs b, oi.op ≠ .select cs b) (hsj : ∀ cs b, oj.op ≠ .select cs b)
    (hQ : ∀ c a w, Q (.panic c) (a.put oi.dst v) w → Q (.panic c) a w) {K : Act → World → Prop} {a : Act} {w w0 : World}
    (hy : YY N P ops p oi v a w0) (h : wpOp P ops Q j K (a.put oi.dst v) w) :
    wpOp P ops Q j (fun a' w' => YY N P ops p oi v a' w0 ∧ K (a'.put oi.dst v) w') a w := by
  obtain ⟨h1, h2, h3⟩ := Oper.apart_spec hap
  have keep : ∀ (a : Act), YY N P ops p oi v a w0 → ∀ u, YY N P ops p oi v (a.put oj.dst u) w0 := fun a hy u =>
    hy.of_same (execOp_put oi hsi a oj.dst u h3) (wanted_put oi a oj.dst u h3)
  have keepD : ∀ d, YY N P ops p oi v { a with defers := d :: a.defers } w0 := fun d => hy.of_same rfl rfl
  unfold Go.wpOp at *
  simp only [hj] at *
  rw [wanted_put oj a oi.dst v h1] at h
  split
  · rename_i hw
    simp only [hw, if_true] at h
    rcases h with h | ⟨hasks, hlets⟩
    case inr => exact .inr ⟨by unfold Oper.asks at *; rw [execOp_put oj hsj a oi.dst v h1] at hasks; exact hasks, hlets⟩
    refine .inl ?_
    unfold Oper.wp at *
    rw [execOp_put oj hsj a oi.dst v h1] at h
    generalize (execOp a.eval oj).run P w = r at *
    cases r with
    | ok n w' =>
      cases n <;> simp only [Oper.upon] at h ⊢
      case value u => exact ⟨keep a hy u, by rw [← Act.put_comm a v u h2]; exact h⟩
      case skip => exact ⟨keep a hy _, by rw [← Act.put_comm a v undef h2]; exact h⟩
      case defer d =>
        refine ⟨keep _ (keepD d) _, ?_⟩
        rw [← Act.put_comm _ v undef h2, ← Act.put_defers]
        exact h
      case enter f args =>
        refine Calls.mono h fun e w'' he => ?_
        cases e with
        | returned u => exact ⟨keep a hy u, by rw [← Act.put_comm a v u h2]; exact he⟩
        | panicked c => exact hQ _ _ _ he
        | outgrown => exact he
      case row row args => exact Rows.mono h fun u w'' he => ⟨keep a hy u, by rw [← Act.put_comm a v u h2]; exact he⟩
    | halt x w' =>
      cases x <;> simp only [Oper.upon] at h ⊢
      case panic u => exact hQ _ _ _ h
  · rename_i hw
    simp only [hw] at h
    exact ⟨keep a hy _, by rw [← Act.put_comm a v undef h2]; exact h⟩

theorem wpP_first {N : Nat} {p : Bool} {i : Nat} {oi : Oper} {v : Value} (hpi : ps.contains i = true → p = true) (hi : ops[i]? = some oi) (hsel : ∀ (j : Nat) (o : Oper) cs b, ops[j]? = some o → o.op ≠ .select cs b)
    (hQ : ∀ c a w, Q (.panic c) (a.put oi.dst v) w → Q (.panic c) a w) :
    ∀ (fuel : Nat) (listed : Array Bool) (a : Act) (w : World), N ≤ w.heap.size → listed.size = ops.size → Closed md ops listed →
      (∀ j oj, ops[j]? = some oj → j ≠ i → listed.getD j true = false → (∀ e ∈ oj.after, Region.binds md e = true → e.on ≠ i) → oi.apart ops oj = true) →
      i ∈ Region.ready md ops listed → YY N P ops p oi v a w →
      wpP P md ops Q ps N fuel (listed.setIfInBounds i true) (a.put oi.dst v) w → wpP P md ops Q ps N (fuel + 1) listed a w := by
  intro fuel
  induction fuel with
  | zero =>
    intro listed a w hN hsz hcl _ hr hy H
    refine ⟨fun h => (by rw [h] at hr; cases hr), fun j hj x hx => ?_⟩
    by_cases hji : j = i
    · subst hji; exact hy.now.wpOp hi (leN.of_le hN hx) fun x' hx' => ⟨.inr (leN.of_le (Nat.le_trans hN hx.size) hx'), wpP_up H (hx.trans hx')⟩
    · have := ready_mono hj hji
      rw [H.1] at this
      cases this
  | succ fuel ih =>
    intro listed a w hN hsz hcl hfree hr hy H
    refine ⟨fun h => (by rw [h] at hr; cases hr), fun j hj x hx => ?_⟩
    by_cases hji : j = i
    · subst hji; exact hy.now.wpOp hi (leN.of_le hN hx) fun x' hx' => ⟨.inr (leN.of_le (Nat.le_trans hN hx.size) hx'), wpP_up H (hx.trans hx')⟩
    · have h1 := H.2 j (ready_mono hj hji) x hx
      obtain ⟨hjun, oj, hoj, hall⟩ := mem_ready.1 hj
      have hnot : ∀ e ∈ oj.after, Region.binds md e = true → e.on ≠ i := fun e he hb heq => by
        have h1 := hall e he hb
        have h0 := (mem_ready.1 hr).1
        rw [heq] at h1
        rcases Nat.lt_or_ge i listed.size with h' | h'
        · simp [h'] at h0 h1; rw [h0] at h1; cases h1
        · simp [Array.getElem?_eq_none h'] at h1
      have h2 := wpOp_putP hoj (hfree j oj hoj hji hjun hnot) (fun cs b => hsel i oi cs b hi) (fun cs b => hsel j oj cs b hoj) hQ hy h1
      have hfree' : ∀ k ok, ops[k]? = some ok → k ≠ i → (listed.setIfInBounds j true).getD k true = false →
          (∀ e ∈ ok.after, Region.binds md e = true → e.on ≠ i) → oi.apart ops ok = true := fun k ok hk hki hun hno => by
        refine hfree k ok hk hki ?_ hno
        by_cases hjk : j = k
        · subst hjk; exact hjun
        · rw [getD_set_ne true hjk] at hun; exact hun
      refine wpOp_mono (fun a' w' h3 => ?_) h2
      obtain ⟨h4, h5, h6⟩ := h3
      rcases h5 with h5 | h5
      · cases hpc : ps.contains i with
        | false => exact (h5.1 listed hcl hj i (Ne.symm hji) hpc hr).elim
        | true =>
          refine ⟨.inl h5, ih (listed.setIfInBounds j true) a' w' h5.2 (by simpa using hsz) (hcl.add hj) hfree' (ready_mono hr (Ne.symm hji)) (h4.any (hpi hpc)) ?_⟩
          rw [Array.setIfInBounds_comm _ _ hji]
          exact h6
      · refine ⟨.inr h5, ih (listed.setIfInBounds j true) a' w' h5.hi (by simpa using hsz) (hcl.add hj) hfree' (ready_mono hr (Ne.symm hji)) (h4.up ((leN.of_le hN hx).trans h5)) ?_⟩
        rw [Array.setIfInBounds_comm _ _ hji]
        exact h6

theorem wpP_take {N : Nat} {i : Nat} {oi : Oper} {v : Value} {fuel : Nat} {listed : Array Bool} {a : Act} {w : World} (hi : ops[i]? = some oi) (hB : takeB md ops listed i = true)
    (hQ : ∀ c a w, Q (.panic c) (a.put oi.dst v) w → Q (.panic c) a w) {p : Bool} (hN : N ≤ w.heap.size) (hpi : ps.contains i = true → p = true) (hy : YY N P ops p oi v a w)
    (h : wpP P md ops Q ps N fuel (listed.setIfInBounds i true) (a.put oi.dst v) w) : wpP P md ops Q ps N (fuel + 1) listed a w := by
  unfold takeB at hB
  rw [Bool.and_eq_true, Bool.and_eq_true, Bool.and_eq_true] at hB
  obtain ⟨h1, h2⟩ := closed_of hB.1
  exact wpP_first hpi hi (Region.noSelect_spec hB.2.2.2) hQ fuel listed a w hN h1 h2 (Region.free_spec hi hB.2.1) (by simpa using hB.2.2.1) hy h

/-- What reads nothing, in any world. -/
theorem yieldsP_of_quiet {N : Nat} {o : Oper} {a : Act} {w : World} {K : Act → Prop} (hc : Op.callless o.op = true) (h : if Region.wanted o (yielded ops a.tmps) then o.quiet P a (fun _ => True) K else K (a.put o.dst undef)) :
    ∃ v, YY N P ops true o v a w ∧ K (a.put o.dst v) := by
  by_cases hw : Region.wanted o (yielded ops a.tmps) = true
  · rw [if_pos hw] at h
    obtain ⟨v, h1, h2⟩ := h
    refine ⟨v, fun w0 _ => .inl ⟨hw, fun x _ => ?_⟩, h2⟩
    have h3 := h1 x trivial
    unfold Oper.quietAt at h3
    cases hr : (execOp a.eval o).run P x with
    | ok n x' =>
      obtain ⟨u, rfl⟩ := callless_value hc hr
      rw [hr] at h3
      exact ⟨h3.2, h3.1⟩
    | halt y x' => rw [hr] at h3; simp only [Oper.quietUpon] at h3
  · rw [if_neg hw] at h
    exact ⟨undef, fun w0 _ => .inr ⟨by simpa using hw, rfl⟩, h⟩

/-- What reads, taken first. -/
theorem wpP_read (i : Nat) {l : List Oper} {oi : Oper} {fuel : Nat} {listed : Array Bool} {a : Act} {w : World} (hi : l[i]? = some oi) (hc : Op.callless oi.op = true) (hB : takeB md l.toArray listed i = true) (hps : ps.contains i = false)
    (hQ : ∀ c d v a w, Q (.panic c) (Act.put a d v) w → Q (.panic c) a w)
    (h : wpQuiet P l.toArray (fun x => ∃ u, x = over w u) (fun a' => wpP P md l.toArray Q ps w.heap.size fuel (listed.setIfInBounds i true) a' w) [oi] a) : wpP P md l.toArray Q ps w.heap.size (fuel + 1) listed a w := by
  obtain ⟨v, hy, hk⟩ := yieldsM_of_quiet (ops := l.toArray) (K := wpQuiet P l.toArray (fun x => ∃ u, x = over w u) (fun a' => wpP P md l.toArray Q ps w.heap.size fuel (listed.setIfInBounds i true) a' w) []) hc h
  exact wpP_take (p := false) (by simpa using hi) hB (hQ · oi.dst v) (Nat.le_refl _) (fun h => by rw [hps] at h; cases h) (fun w0 hw => by
    rcases hw with hw | rfl
    · cases hw
    · rcases hy with ⟨h1, h2⟩ | h1
      · exact .inl ⟨h1, fun x hx => h2 x hx.to_le⟩
      · exact .inr h1) hk

/-- What reads no memory, taken first. -/
theorem wpP_pure {N : Nat} (i : Nat) {l : List Oper} {oi : Oper} {fuel : Nat} {listed : Array Bool} {a : Act} {w : World} (hi : l[i]? = some oi) (hc : Op.callless oi.op = true) (hB : takeB md l.toArray listed i = true) (hN : N ≤ w.heap.size)
    (hQ : ∀ c d v a w, Q (.panic c) (Act.put a d v) w → Q (.panic c) a w)
    (h : wpQuiet P l.toArray (fun _ => True) (fun a' => wpP P md l.toArray Q ps N fuel (listed.setIfInBounds i true) a' w) [oi] a) : wpP P md l.toArray Q ps N (fuel + 1) listed a w := by
  obtain ⟨v, hy, hk⟩ := yieldsP_of_quiet (N := N) (ops := l.toArray) (w := w) (K := wpQuiet P l.toArray (fun _ => True) (fun a' => wpP P md l.toArray Q ps N fuel (listed.setIfInBounds i true) a' w) []) hc h
  exact wpP_take (p := true) (by simpa using hi) hB (hQ · oi.dst v) hN (fun _ => rfl) hy hk

def AllP (P : Program) (md : Region.Mode) (ops : Array Oper) (Q : Exit → Act → World → Prop) (ps : List Nat) (N : Nat) (fuel : Nat) (listed : Array Bool) (a : Act) (w : World) (rs : List Nat) : Prop :=
  ∀ i ∈ rs, ∀ x, le w x → wpOp P ops Q i (fun a' x' => ((AloneP md ops ps i ∧ N ≤ x'.heap.size) ∨ leN N x x') ∧ wpP P md ops Q ps N fuel (listed.setIfInBounds i true) a' x') a x

theorem AllP.nil {N : Nat} {fuel : Nat} {listed : Array Bool} {a : Act} {w : World} : AllP P md ops Q ps N fuel listed a w [] := fun _ h => by cases h

theorem AllP.cons {N : Nat} {l : List Oper} {fuel : Nat} {listed : Array Bool} {a : Act} {w : World} {i : Nat} {o : Oper} {rs : List Nat} (ho : l[i]? = some o)
    (h : ∀ x, le w x → ∀ K : Act → World → Prop, (∀ a' x', ((AloneP md l.toArray ps i ∧ N ≤ x'.heap.size) ∨ leN N x x') → wpP P md l.toArray Q ps N fuel (listed.setIfInBounds i true) a' x' → K a' x') → if Region.wanted o (yielded l.toArray a.tmps) = true then Oper.wp P o a x K Q else K (a.put o.dst undef) x)
    (hs : AllP P md l.toArray Q ps N fuel listed a w rs) : AllP P md l.toArray Q ps N fuel listed a w (i :: rs) := fun j hj x hx => by
  rcases List.mem_cons.1 hj with rfl | hj
  · exact wpOp_step (by simpa using ho) fun K hK => h x hx K fun a' x' h1 h2 => hK a' x' ⟨h1, h2⟩
  · exact hs j hj x hx

theorem wpP_ready {N : Nat} (rs : List Nat) {fuel : Nat} {listed : Array Bool} {a : Act} {w : World} (hr : Region.ready md ops listed = rs) (hne : rs ≠ [])
    (h : AllP P md ops Q ps N fuel listed a w rs) : wpP P md ops Q ps N (fuel + 1) listed a w := ⟨fun h0 => absurd (hr ▸ h0) hne, hr ▸ h⟩

theorem wpP_done {N : Nat} {fuel : Nat} {listed : Array Bool} {a : Act} {w : World} (hr : Region.ready md ops listed = []) (h : ∀ w', le w w' → Q .normal a w') : wpP P md ops Q ps N fuel listed a w := by
  cases fuel with
  | zero => exact ⟨hr, h⟩
  | succ n => exact ⟨fun _ => h, by rw [hr]; simp⟩

theorem wp_region_p (ps : List Nat) (n : Nat) {l : List Oper} {id : Nat} {a : Act} {w : World} (hm : P.follows .mixedOrders = true) (hn : l.length = n)
    (h : ∀ w', le w w' → wpP P .any l.toArray Q ps w'.heap.size n (Array.replicate n false) a w') : (Code.region id l.toArray true).wp P Q a w := by
  subst hn
  exact wp_region_any hm (by simpa using wpP_any _ _ _ _ (Nat.le_refl _) (h { w with drawn := w.drawn + 1 } ⟨rfl, rfl, rfl, Nat.le_refl _, fun _ _ => rfl⟩))

end

end Go.Proofs.YtcifdkliiljmkaaGreatDoor
