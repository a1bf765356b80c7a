/-
  Plain lemmas: a region that draws its order and holds calls that make memory: what yields one value in every later world may be taken first, whatever else is left; the makers of memory alone are parted on.
-/
import Derived.Test.YtcifdkliiljmkaaGreatDoorPackA
namespace Go.Proofs.YtcifdkliiljmkaaGreatDoor
open Go.RowKit

section
variable {P : Program} {ops : Array Oper} {Q : Exit → Act → World → Prop} {md : Region.Mode}

def le (w w' : World) : Prop := Below w.heap.size w w'
theorem le.refl (w : World) : le w w := Below.refl _ _
theorem le.trans {w w1 w2 : World} (h : le w w1) (k : le w1 w2) : le w w2 := Below.trans h (Below.mono k h.size)

/-- Whatever an operation waits for has come up ahead of it. -/
def Closed (md : Region.Mode) (ops : Array Oper) (listed : Array Bool) : Prop := ∀ k o, ops[k]? = some o → listed.getD k false = true → ∀ e ∈ o.after, Region.binds md e = true → listed.getD e.on false = true

/-- It comes up when all others have. -/
def Closes (md : Region.Mode) (ops : Array Oper) (j : Nat) : Prop := ∀ listed : Array Bool, listed.size = ops.size → Closed md ops listed → j ∈ Region.ready md ops listed → ∀ i, i < ops.size → i ≠ j → listed.getD i false = true

def closesB (md : Region.Mode) (ops : Array Oper) : Bool :=
  (List.range (ops.size - 1)).all fun i => (List.range ops.size).any fun k => decide (i < k) && (match ops[k]? with | some o => o.after.any fun e => Region.binds md e && e.on == i | none => false)

theorem closes_of (h : closesB md ops = true) : Closes md ops (ops.size - 1) := by
  intro listed hs hc hr
  obtain ⟨-, oj, hoj, hall⟩ := mem_ready.1 hr
  have key : ∀ n i, ops.size - 1 - i ≤ n → i < ops.size - 1 → listed.getD i false = true := by
    intro n
    induction n with
    | zero => intro i h1 h2; omega
    | succ n ih =>
      intro i h1 h2
      have h3 := List.all_eq_true.1 h i (List.mem_range.2 h2)
      obtain ⟨k, hk, h4⟩ := List.any_eq_true.1 h3
      rw [Bool.and_eq_true, decide_eq_true_eq] at h4
      obtain ⟨hik, h4⟩ := h4
      cases ho : ops[k]? with
      | none => rw [ho] at h4; cases h4
      | some o =>
        rw [ho] at h4
        obtain ⟨e, he, hb⟩ := Array.any_eq_true'.1 h4
        rw [Bool.and_eq_true, beq_iff_eq] at hb
        rw [← hb.2]
        by_cases hkj : k = ops.size - 1
        · subst hkj
          rw [hoj] at ho
          obtain rfl := Option.some.inj ho
          exact hall e he hb.1
        · have hk' := List.mem_range.1 hk
          exact hc k o ho (ih k (by omega) (by omega)) e he hb.1
  intro i h1 h2
  exact key _ i (Nat.le_refl _) (by omega)

theorem Closed.add {listed : Array Bool} {i : Nat} (h : Closed md ops listed) (hi : i ∈ Region.ready md ops listed) : Closed md ops (listed.setIfInBounds i true) := by
  intro k o ho hk e he hb
  obtain ⟨-, oi, hoi, hall⟩ := mem_ready.1 hi
  by_cases hik : k = i
  · subst hik
    rw [hoi] at ho
    obtain rfl := Option.some.inj ho
    exact getD_set_true (hall e he hb)
  · rw [getD_set_ne false (Ne.symm hik)] at hk
    exact getD_set_true (h k o ho hk e he hb)

/-- Whatever order is picked from here on, in every world that holds what this one holds. -/
def wpM (P : Program) (md : Region.Mode) (ops : Array Oper) (Q : Exit → Act → World → Prop) : Nat → Array Bool → Act → World → Prop
  | 0, listed, a, w => Region.ready md ops listed = [] ∧ ∀ w', le w w' → Q .normal a w'
  | fuel + 1, listed, a, w =>
    (Region.ready md ops listed = [] → ∀ w', le w w' → Q .normal a w') ∧
    ∀ i ∈ Region.ready md ops listed, ∀ w', le w w' → wpOp P ops Q i (fun a' x => (Closes md ops i ∨ le w' x) ∧ wpM P md ops Q fuel (listed.setIfInBounds i true) a' x) a w'

theorem wpM_any : ∀ (fuel : Nat) (listed : Array Bool) (a : Act) (w : World), wpM P md ops Q fuel listed a w → wpAny P md ops Q fuel listed a w
  | 0, _, _, _, h => ⟨h.1, h.2 _ (le.refl _)⟩
  | fuel + 1, _, _, _, h => ⟨fun h0 => h.1 h0 _ (le.refl _), fun i hi => wpOp_mono (fun a' w' h' => wpM_any fuel _ a' w' h'.2) (h.2 i hi _ (le.refl _))⟩

theorem wpM_up : ∀ {fuel : Nat} {listed : Array Bool} {a : Act} {w w' : World}, wpM P md ops Q fuel listed a w → le w w' → wpM P md ops Q fuel listed a w'
  | 0, _, _, _, _, h, b => ⟨h.1, fun _ b' => h.2 _ (b.trans b')⟩
  | _ + 1, _, _, _, _, h, b => ⟨fun h0 _ b' => h.1 h0 _ (b.trans b'), fun i hi _ b' => h.2 i hi _ (b.trans b')⟩

/-- What came of an operation in the world x: this value, in that world; or a call that hands back this value and leaves a later world. -/
def YAt (P : Program) (x : World) (v : Value) : Result Next → Prop
  | .ok (.value u) x' => u = v ∧ x' = x
  | .ok .skip x' => v = undef ∧ x' = x
  | .ok (.enter f args) x' => x' = x ∧ Calls P f args x (fun e x'' => e = .returned v ∧ le x x'')
  | _ => False

def YieldsM (P : Program) (ops : Array Oper) (o : Oper) (v : Value) (a : Act) (w : World) : Prop :=
  (Region.wanted o (yielded ops a.tmps) = true ∧ ∀ x, le w x → YAt P x v ((execOp a.eval o).run P x)) ∨
  (Region.wanted o (yielded ops a.tmps) = false ∧ v = undef)

theorem YieldsM.up {o : Oper} {v : Value} {a : Act} {w w' : World} (h : YieldsM P ops o v a w) (b : le w w') : YieldsM P ops o v a w' := by
  rcases h with ⟨h1, h2⟩ | h
  · exact .inl ⟨h1, fun x hx => h2 x (b.trans hx)⟩
  · exact .inr h

theorem YieldsM.of_same {o : Oper} {v : Value} {a a' : Act} {w : World} (hy : YieldsM P ops o v a w) (he : execOp a'.eval o = execOp a.eval o)
    (hw : Region.wanted o (yielded ops a'.tmps) = Region.wanted o (yielded ops a.tmps)) : YieldsM P ops o v a' w := by
  unfold YieldsM at *
  rw [he, hw]
  exact hy

theorem YieldsM.wpOp {i : Nat} {o : Oper} {v : Value} {a : Act} {w x : World} (hi : ops[i]? = some o) (hy : YieldsM P ops o v a w) (hx : le w x)
    {K : Act → World → Prop} (h : ∀ x', le x x' → K (a.put o.dst v) x') : wpOp P ops Q i K a x := by
  unfold Go.wpOp
  simp only [hi]
  rcases hy with ⟨hw, hv⟩ | ⟨hw, rfl⟩
  · simp only [hw, if_true]
    have hv := hv x hx
    refine .inl ?_
    unfold Oper.wp
    generalize (execOp a.eval o).run P x = r at *
    cases r with
    | ok n x' =>
      cases n <;> simp only [YAt] at hv <;> simp only [Oper.upon]
      case value u => obtain ⟨rfl, rfl⟩ := hv; exact h _ (le.refl _)
      case skip => obtain ⟨rfl, rfl⟩ := hv; exact h _ (le.refl _)
      case enter f args =>
        obtain ⟨rfl, hc⟩ := hv
        exact hc.mono fun e x'' ⟨he, hb⟩ => by subst he; exact h _ hb
    | halt y x' => simp only [YAt] at hv
  · simp only [hw, Bool.false_eq_true, if_false]; exact h _ (le.refl _)

/-- Another operation, apart from it, comes up ahead of it. -/
theorem wpOp_putM {j : Nat} {oi oj : Oper} {v : Value} (hj : ops[j]? = some oj) (hap : oi.apart ops oj = true)
    (hsi : ∀ cs b, oi.op ≠ .select cs b) (hsj : ∀ cs b, oj.op ≠ .select cs b)
    (hQ : ∀ c a w, Q (.panic c) (a.put oi.dst v) w → Q (.panic c) a w) {K : Act → World → Prop} {a : Act} {w w0 : World}
    (hy : YieldsM P ops oi v a w0) (h : wpOp P ops Q j K (a.put oi.dst v) w) :
    wpOp P ops Q j (fun a' w' => YieldsM P ops oi v a' w0 ∧ K (a'.put oi.dst v) w') a w := by
  obtain ⟨h1, h2, h3⟩ := Oper.apart_spec hap
  have keep : ∀ (a : Act), YieldsM P ops oi v a w0 → ∀ u, YieldsM P ops oi v (a.put oj.dst u) w0 := fun a hy u =>
    hy.of_same (execOp_put oi hsi a oj.dst u h3) (wanted_put oi a oj.dst u h3)
  have keepD : ∀ d, YieldsM P ops oi v { a with defers := d :: a.defers } w0 := fun d => hy.of_same rfl rfl
  unfold Go.wpOp at *
  simp only [hj] at *
  rw [wanted_put oj a oi.dst v h1] at h
  split
  · rename_i hw
    simp only [hw, if_true] at h
    rcases h with h | ⟨hasks, hlets⟩
    case inr => exact .inr ⟨by unfold Oper.asks at *; rw [execOp_put oj hsj a oi.dst v h1] at hasks; exact hasks, hlets⟩
    refine .inl ?_
    unfold Oper.wp at *
    rw [execOp_put oj hsj a oi.dst v h1] at h
    generalize (execOp a.eval oj).run P w = r at *
    cases r with
    | ok n w' =>
      cases n <;> simp only [Oper.upon] at h ⊢
      case value u => exact ⟨keep a hy u, by rw [← Act.put_comm a v u h2]; exact h⟩
      case skip => exact ⟨keep a hy _, by rw [← Act.put_comm a v undef h2]; exact h⟩
      case defer d =>
        refine ⟨keep _ (keepD d) _, ?_⟩
        rw [← Act.put_comm _ v undef h2, ← Act.put_defers]
        exact h
      case enter f args =>
        refine Calls.mono h fun e w'' he => ?_
        cases e with
        | returned u => exact ⟨keep a hy u, by rw [← Act.put_comm a v u h2]; exact he⟩
        | panicked c => exact hQ _ _ _ he
        | outgrown => exact he
      case row row args => exact Rows.mono h fun u w'' he => ⟨keep a hy u, by rw [← Act.put_comm a v u h2]; exact he⟩
    | halt x w' =>
      cases x <;> simp only [Oper.upon] at h ⊢
      case panic u => exact hQ _ _ _ h
  · rename_i hw
    simp only [hw] at h
    exact ⟨keep a hy _, by rw [← Act.put_comm a v undef h2]; exact h⟩

theorem wpM_first {i : Nat} {oi : Oper} {v : Value} (hi : ops[i]? = some oi) (hsel : ∀ (j : Nat) (o : Oper) cs b, ops[j]? = some o → o.op ≠ .select cs b)
    (hQ : ∀ c a w, Q (.panic c) (a.put oi.dst v) w → Q (.panic c) a w) :
    ∀ (fuel : Nat) (listed : Array Bool) (a : Act) (w : World), listed.size = ops.size → Closed md ops listed →
      (∀ j oj, ops[j]? = some oj → j ≠ i → listed.getD j true = false → (∀ e ∈ oj.after, Region.binds md e = true → e.on ≠ i) → oi.apart ops oj = true) →
      i ∈ Region.ready md ops listed → YieldsM P ops oi v a w →
      wpM P md ops Q fuel (listed.setIfInBounds i true) (a.put oi.dst v) w → wpM P md ops Q (fuel + 1) listed a w := by
  intro fuel
  induction fuel with
  | zero =>
    intro listed a w hsz hcl _ hr hy H
    refine ⟨fun h => (by rw [h] at hr; cases hr), fun j hj x hx => ?_⟩
    by_cases hji : j = i
    · subst hji; exact hy.wpOp hi hx fun x' hx' => ⟨.inr hx', wpM_up H (hx.trans hx')⟩
    · have := ready_mono hj hji
      rw [H.1] at this
      cases this
  | succ fuel ih =>
    intro listed a w hsz hcl hfree hr hy H
    refine ⟨fun h => (by rw [h] at hr; cases hr), fun j hj x hx => ?_⟩
    by_cases hji : j = i
    · subst hji; exact hy.wpOp hi hx fun x' hx' => ⟨.inr hx', wpM_up H (hx.trans hx')⟩
    · have h1 := H.2 j (ready_mono hj hji) x hx
      obtain ⟨hjun, oj, hoj, hall⟩ := mem_ready.1 hj
      have hnot : ∀ e ∈ oj.after, Region.binds md e = true → e.on ≠ i := fun e he hb heq => by
        have h1 := hall e he hb
        have h0 := (mem_ready.1 hr).1
        rw [heq] at h1
        rcases Nat.lt_or_ge i listed.size with h' | h'
        · simp [h'] at h0 h1; rw [h0] at h1; cases h1
        · simp [Array.getElem?_eq_none h'] at h1
      have h2 := wpOp_putM hoj (hfree j oj hoj hji hjun hnot) (fun cs b => hsel i oi cs b hi) (fun cs b => hsel j oj cs b hoj) hQ hy h1
      have hfree' : ∀ k ok, ops[k]? = some ok → k ≠ i → (listed.setIfInBounds j true).getD k true = false →
          (∀ e ∈ ok.after, Region.binds md e = true → e.on ≠ i) → oi.apart ops ok = true := fun k ok hk hki hun hno => by
        refine hfree k ok hk hki ?_ hno
        by_cases hjk : j = k
        · subst hjk; exact hjun
        · rw [getD_set_ne true hjk] at hun; exact hun
      refine wpOp_mono (fun a' w' h3 => ?_) h2
      obtain ⟨h4, h5, h6⟩ := h3
      rcases h5 with h5 | h5
      · obtain ⟨hiun, oi', hoi', -⟩ := mem_ready.1 hr
        have hlt : i < ops.size := (Array.getElem?_eq_some_iff.1 hoi').1
        have := h5 listed hsz hcl hj i hlt (Ne.symm hji)
        have e : listed.getD i true = listed.getD i false := by
          rw [Array.getD_eq_getD_getElem?, Array.getD_eq_getD_getElem?, Array.getElem?_eq_getElem (by omega)]; rfl
        rw [e, this] at hiun
        cases hiun
      · refine ⟨.inr h5, ih (listed.setIfInBounds j true) a' w' (by simpa using hsz) (hcl.add hj) hfree' (ready_mono hr (Ne.symm hji)) (h4.up (hx.trans h5)) ?_⟩
        rw [Array.setIfInBounds_comm _ _ hji]
        exact h6

def closedB (md : Region.Mode) (ops : Array Oper) (listed : Array Bool) : Bool :=
  decide (listed.size = ops.size) && (List.range ops.size).all fun k => !listed.getD k false || (match ops[k]? with | some o => o.after.all fun e => !Region.binds md e || listed.getD e.on false | none => true)

theorem closed_of {listed : Array Bool} (h : closedB md ops listed = true) : listed.size = ops.size ∧ Closed md ops listed := by
  unfold closedB at h
  rw [Bool.and_eq_true, decide_eq_true_eq] at h
  refine ⟨h.1, fun k o ho hk e he hb => ?_⟩
  have h1 := List.all_eq_true.1 h.2 k (List.mem_range.2 (Array.getElem?_eq_some_iff.1 ho).1)
  simp only [ho] at h1
  rw [hk, Bool.not_true, Bool.false_or] at h1
  have h2 := Array.all_eq_true_iff_forall_mem.1 h1 e he
  rw [hb, Bool.not_true, Bool.false_or] at h2
  exact h2

/-- What may be taken now, by one look of the kernel. -/
def takeB (md : Region.Mode) (ops : Array Oper) (listed : Array Bool) (i : Nat) : Bool :=
  closedB md ops listed && (Region.free md ops listed i && ((Region.ready md ops listed).contains i && Region.noSelect ops))

theorem wpM_take {i : Nat} {oi : Oper} {v : Value} {fuel : Nat} {listed : Array Bool} {a : Act} {w : World} (hi : ops[i]? = some oi) (hB : takeB md ops listed i = true)
    (hQ : ∀ c a w, Q (.panic c) (a.put oi.dst v) w → Q (.panic c) a w) (hy : YieldsM P ops oi v a w)
    (h : wpM P md ops Q fuel (listed.setIfInBounds i true) (a.put oi.dst v) w) : wpM P md ops Q (fuel + 1) listed a w := by
  unfold takeB at hB
  rw [Bool.and_eq_true, Bool.and_eq_true, Bool.and_eq_true] at hB
  obtain ⟨h1, h2⟩ := closed_of hB.1
  exact wpM_first hi (Region.noSelect_spec hB.2.2.2) hQ fuel listed a w h1 h2 (Region.free_spec hi hB.2.1) (by simpa using hB.2.2.1) hy h

/-- An operation that makes no call. -/
def Op.callless : Op → Bool
  | .move _ | .assign _ | .pick .. | .load .. | .build .. | .binOp .. | .unOp .. | .convert .. | .slice .. | .fieldAddr .. | .field .. | .indexAddr .. | .index .. | .extract .. | .nilCheck .. => true
  | _ => false

theorem run_val {P : Program} {s : Sem Value} {w : World} : ∀ n w', (do let x ← s; pure (Next.value x) : Sem Next).run P w = .ok n w' → ∃ u, n = .value u := by
  intro n w' h
  rw [Sem.run_bind] at h
  cases hs : s.run P w with
  | ok u w2 => rw [hs] at h; simp only [Result.andThen] at h; cases h; exact ⟨u, rfl⟩
  | halt x w2 => rw [hs] at h; simp only [Result.andThen] at h; cases h

theorem run_cont {P : Program} {α : Type} {s : Sem α} {f : α → Sem Next} {w : World} {n : Next} {w' : World} (hf : ∀ a w, (f a).run P w = .ok n w' → ∃ u, n = .value u) (h : (s >>= f).run P w = .ok n w') : ∃ u, n = .value u := by
  rw [Sem.run_bind] at h
  cases hs : s.run P w with
  | ok u w2 => rw [hs] at h; exact hf u w2 h
  | halt x w2 => rw [hs] at h; simp only [Result.andThen] at h; cases h

theorem callless_value {ρ : Operand → Value} {o : Oper} (h : Op.callless o.op = true) {w w' : World} {n : Next} (hr : (execOp ρ o).run P w = .ok n w') : ∃ u, n = .value u := by
  obtain ⟨dst, op, type, pos, after, guard⟩ := o
  cases op <;> simp only [Op.callless] at h <;> first | cases h | skip
  all_goals simp only [execOp] at hr
  case move x => cases hr; exact ⟨_, rfl⟩
  case assign x => cases hr; exact ⟨_, rfl⟩
  case pick c x y =>
    rw [Sem.run_bind] at hr
    cases hs : (asBool (ρ c)).run P w with
    | ok u w2 => rw [hs] at hr; simp only [Result.andThen] at hr; cases hr; exact ⟨_, rfl⟩
    | halt x w2 => rw [hs] at hr; simp only [Result.andThen] at hr; cases hr
  case nilCheck x =>
    split at hr
    · cases hr
    · cases hr
    · cases hr
    · split at hr
      · cases hr
      · refine run_cont (fun a w h => run_cont (fun a w h => ?_) h) hr
        split at h
        · exact run_cont (fun a w h => by cases h; exact ⟨_, rfl⟩) h
        · cases h; exact ⟨_, rfl⟩
      · cases hr; exact ⟨_, rfl⟩
    · cases hr; exact ⟨_, rfl⟩
  all_goals exact run_val _ _ hr

/-- What reads, met in any later world. -/
theorem yieldsM_of_quiet {o : Oper} {a : Act} {w : World} {K : Act → Prop} (hc : Op.callless o.op = true) (h : if Region.wanted o (yielded ops a.tmps) then o.quiet P a (fun x => ∃ u, x = over w u) K else K (a.put o.dst undef)) :
    ∃ v, YieldsM P ops o v a w ∧ K (a.put o.dst v) := by
  by_cases hw : Region.wanted o (yielded ops a.tmps) = true
  · rw [if_pos hw] at h
    obtain ⟨v, h1, h2⟩ := h
    refine ⟨v, .inl ⟨hw, fun x hx => ?_⟩, h2⟩
    have h3 := h1 x ⟨x, (over_eq hx).symm⟩
    unfold Oper.quietAt at h3
    cases hr : (execOp a.eval o).run P x with
    | ok n x' =>
      obtain ⟨u, rfl⟩ := callless_value hc hr
      rw [hr] at h3
      exact ⟨h3.2, h3.1⟩
    | halt y x' => rw [hr] at h3; simp only [Oper.quietUpon] at h3
  · rw [if_neg hw] at h
    exact ⟨undef, .inr ⟨by simpa using hw, rfl⟩, h⟩

/-- What reads, taken first. -/
theorem wpM_read (i : Nat) {l : List Oper} {oi : Oper} {fuel : Nat} {listed : Array Bool} {a : Act} {w : World} (hi : l[i]? = some oi) (hc : Op.callless oi.op = true) (hB : takeB md l.toArray listed i = true)
    (hQ : ∀ c d v a w, Q (.panic c) (Act.put a d v) w → Q (.panic c) a w)
    (h : wpQuiet P l.toArray (fun x => ∃ u, x = over w u) (fun a' => wpM P md l.toArray Q fuel (listed.setIfInBounds i true) a' w) [oi] a) : wpM P md l.toArray Q (fuel + 1) listed a w := by
  obtain ⟨v, hy, hk⟩ := yieldsM_of_quiet (ops := l.toArray) (K := wpQuiet P l.toArray (fun x => ∃ u, x = over w u) (fun a' => wpM P md l.toArray Q fuel (listed.setIfInBounds i true) a' w) []) hc h
  exact wpM_take (by simpa using hi) hB (hQ · oi.dst v) hy hk

/-- A call whose value is known in every later world. -/
theorem wpM_call (i : Nat) {l : List Oper} {oi : Oper} (f : FuncId) (args : Array Value) (v : Value) {fuel : Nat} {listed : Array Bool} {a : Act} {w : World} (hi : l[i]? = some oi) (hB : takeB md l.toArray listed i = true)
    (hQ : ∀ c d v a w, Q (.panic c) (Act.put a d v) w → Q (.panic c) a w) (hw : Region.wanted oi (yielded l.toArray a.tmps) = true) (he : ∀ x, (execOp a.eval oi).run P x = .ok (.enter f args) x)
    (hc : ∀ x, le w x → Calls P f args x (Gives v x))
    (h : ∀ K : Act → Prop, (∀ a', wpM P md l.toArray Q fuel (listed.setIfInBounds i true) a' w → K a') → K (a.put oi.dst v)) : wpM P md l.toArray Q (fuel + 1) listed a w :=
  wpM_take (by simpa using hi) hB (hQ · oi.dst v) (.inl ⟨hw, fun x hx => by rw [he x]; exact ⟨rfl, hc x hx⟩⟩) (h _ fun _ h => h)

def AllM (P : Program) (md : Region.Mode) (ops : Array Oper) (Q : Exit → Act → World → Prop) (fuel : Nat) (listed : Array Bool) (a : Act) (w : World) (rs : List Nat) : Prop :=
  ∀ i ∈ rs, ∀ x, le w x → wpOp P ops Q i (fun a' x' => (Closes md ops i ∨ le x x') ∧ wpM P md ops Q fuel (listed.setIfInBounds i true) a' x') a x

theorem AllM.nil {fuel : Nat} {listed : Array Bool} {a : Act} {w : World} : AllM P md ops Q fuel listed a w [] := fun _ h => by cases h

theorem AllM.cons {l : List Oper} {fuel : Nat} {listed : Array Bool} {a : Act} {w : World} {i : Nat} {o : Oper} {rs : List Nat} (ho : l[i]? = some o)
    (h : ∀ x, le w x → ∀ K : Act → World → Prop, (∀ a' x', (Closes md l.toArray i ∨ le x x') → wpM P md l.toArray Q fuel (listed.setIfInBounds i true) a' x' → K a' x') → if Region.wanted o (yielded l.toArray a.tmps) = true then Oper.wp P o a x K Q else K (a.put o.dst undef) x)
    (hs : AllM P md l.toArray Q fuel listed a w rs) : AllM P md l.toArray Q fuel listed a w (i :: rs) := fun j hj x hx => by
  rcases List.mem_cons.1 hj with rfl | hj
  · exact wpOp_step (by simpa using ho) fun K hK => h x hx K fun a' x' h1 h2 => hK a' x' ⟨h1, h2⟩
  · exact hs j hj x hx

theorem wpM_ready (rs : List Nat) {fuel : Nat} {listed : Array Bool} {a : Act} {w : World} (hr : Region.ready md ops listed = rs) (hne : rs ≠ [])
    (h : AllM P md ops Q fuel listed a w rs) : wpM P md ops Q (fuel + 1) listed a w := ⟨fun h0 => absurd (hr ▸ h0) hne, hr ▸ h⟩

theorem wpM_done {fuel : Nat} {listed : Array Bool} {a : Act} {w : World} (hr : Region.ready md ops listed = []) (h : ∀ w', le w w' → Q .normal a w') : wpM P md ops Q fuel listed a w := by
  cases fuel with
  | zero => exact ⟨hr, h⟩
  | succ n => exact ⟨fun _ => h, by rw [hr]; simp⟩

theorem wp_region_m (n : Nat) {l : List Oper} {id : Nat} {a : Act} {w : World} (hm : P.follows .mixedOrders = true) (hn : l.length = n)
    (h : ∀ w', le w w' → wpM P .any l.toArray Q n (Array.replicate n false) a w') : (Code.region id l.toArray true).wp P Q a w := by
  subst hn
  exact wp_region_any hm (by simpa using wpM_any _ _ _ _ (h { w with drawn := w.drawn + 1 } ⟨rfl, rfl, rfl, Nat.le_refl _, fun _ _ => rfl⟩))

end

end Go.Proofs.YtcifdkliiljmkaaGreatDoor
