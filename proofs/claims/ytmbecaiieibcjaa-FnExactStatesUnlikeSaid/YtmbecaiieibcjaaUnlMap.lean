/-
  A set of pairs in a map of the call's own (map[[2]int64]bool).
-/
import Derived.Test.YtmbecaiieibcjaaUnlOk
import Derived.Maps.Own
import Derived.Maps.Views
import Derived.DeepKeys4
import Derived.WideKeyPair
namespace Go.Proofs.Ytmbecaiieibcjaa
open Go.RowKit Go.Maps Go.WideMaps

theorem laidOutU : laidOutB Try.prog = true := by kernel_rfl
theorem rowPr : (95 : TypeId) < Try.prog.types.size := of_decide_eq_true (by kernel_rfl)
theorem pos_succ {n : Nat} (h : 0 < n) : ∃ m, n = m + 1 := ⟨n - 1, by omega⟩
theorem posPr : 0 < Try.prog.types.size := of_decide_eq_true (by kernel_rfl)
theorem sizePr : ∃ m, Try.prog.types.size = m + 1 := pos_succ posPr
theorem arrPr : ArrKey Try.prog 95 2 2 := ⟨by kernel_rfl, by kernel_rfl, by kernel_rfl, by kernel_rfl⟩
theorem widePr : (match Try.prog.underlying 95 with | some (.array _ _) | some (.struct _) => true | _ => false) = true := by kernel_rfl
set_option maxRecDepth 100000 in
theorem lawPr : Keyed Try.prog 95 := Keyed.of_law (deep_law_laid laidOutU (m := 2) (by omega) rowPr (by kernel_rfl) widePr)
theorem undMap : Try.prog.underlying 108 = some (.map 95 4) := by kernel_rfl
theorem undBool : Try.prog.underlying 4 = some .bool := by kernel_rfl
theorem undI64 : Try.prog.underlying 2 = some (.int .i64) := by kernel_rfl
theorem zeroBool (w : World) : (zeroValue 4).run Try.prog w = .ok (.bool false) w := by kernel_rfl

def prV (p q : Nat) : Value := .agg #[.int .i64 p, .int .i64 q]
def prL (p q : Nat) : Lit := .string (keyBytes [.int .i64 p, .int .i64 q])

theorem keyPr {p q : Nat} (hp : p < 1000000) (hq : q < 1000000) : keyOf Try.prog 95 (prV p q) = some (prL p q) :=
  keyOf_pair arrPr undI64 sizePr (WalkArith.wf_i64 (by omega)) (WalkArith.wf_i64 (by omega))

theorem prL_ne {p q p' q' : Nat} (hp : p < 1000000) (hq : q < 1000000) (hp' : p' < 1000000) (hq' : q' < 1000000) (h : (p, q) ≠ (p', q')) : prL p q ≠ prL p' q' := fun e => by
  have h1 := keyPr hp hq
  have h2 := keyPr hp' hq'
  rw [← e] at h2
  have h3 := lawPr.inj h1 h2
  unfold prV at h3
  simp only [Value.agg.injEq, Array.mk.injEq, List.cons.injEq, Value.int.injEq, true_and, and_true] at h3
  exact h (Prod.ext (by omega) (by omega))

/-- Block b is a map that holds just the pairs of these entries. -/
def SetIs (w : World) (b : Nat) (L : List PW) : Prop :=
  ∃ D : DataW Unit, w.ownsMap Try.prog 95 (plainElem Try.prog 4) b L.length D ∧ ∀ p q : Nat, p < 1000000 → q < 1000000 → D.atKey (prL p q) (.lit (.bool false)) = .lit (.bool (L.any fun x => x.1 == (p, q)))

def oSet (b : Nat) (L : List PW) : Ob := ⟨fun w fp => SetIs w b L ∧ fp = [b], fun {w w' fp} hf h => by
  obtain ⟨⟨D, ⟨es, clock, hb, F, hs, hD⟩, h2⟩, rfl⟩ := h
  exact ⟨⟨D, ⟨es, clock, (hf b (by simp)).trans hb, F, hs, hD⟩, h2⟩, rfl⟩⟩

theorem Star.allocSet {w0 w : World} {ps : List Ob} (S : Star w0 w ps) : Star w0 (w.alloc (.map #[] 0)) (oSet w.heap.size [] :: ps) :=
  S.push (P := oSet w.heap.size []) (f := [w.heap.size]) ((Below.refl _ _).alloc (Nat.le_refl _) _) ⟨⟨.map [], World.ownsMap_made _ _ _ _, fun p q _ _ => rfl⟩, rfl⟩ (by simp) (fun b hb => by rw [List.mem_singleton.1 hb]; exact Nat.le_refl _) (fun b hb => by rw [List.mem_singleton.1 hb, World.size_alloc]; exact Nat.lt_succ_self _)

theorem Star.setIs {w0 w : World} {ps : List Ob} (S : Star w0 w ps) (n : Nat) {b : Nat} {L : List PW} (h : ps[n]? = some (oSet b L)) : SetIs w b L := by
  obtain ⟨-, fp, hh, -⟩ := S
  exact ((hh n _ h).1).1

theorem SetIs.put {w : World} {b : Nat} {L : List PW} (h : SetIs w b L) {p q : Nat} (hp : p < 1000000) (hq : q < 1000000) (hl : L.length < 1000000000000) (wd : List UInt8) :
    ∃ w', (Instr.mapUpdate 108 (.map (some b)) (prV p q) (.bool true)).run Try.prog w = .ok () w' ∧ SetIs w' b (L ++ [((p, q), wd)]) ∧ w.grownBy w' (some b) := by
  obtain ⟨D, h1, h2⟩ := h
  obtain ⟨w', r1, r2, r3⟩ := h1.update lawPr undMap (by unfold maxLen; omega) (keyPr hp hq) (plainElem_bool undBool true)
  refine ⟨w', r1, ⟨_, by rw [List.length_append]; exact r2, fun p' q' hp' hq' => ?_⟩, r3⟩
  rw [List.any_append]
  by_cases he : (p', q') = (p, q)
  · cases he
    have hm : Maps.IsMap D := by
      obtain ⟨es, clock, -, -, -, rfl⟩ := h1
      exact ⟨_, rfl⟩
    rw [Maps.atKey_put_same hm (lawPr.key (keyPr hp hq))]
    simp
  · rw [Maps.atKey_put_other (prL_ne hp' hq' hp hq he), h2 p' q' hp' hq']
    have : (((p, q) : Nat × Nat) == (p', q')) = false := by simpa using fun h1 h2 => he (by rw [h1, h2])
    simp [this]

theorem SetIs.look {w : World} {b : Nat} {L : List PW} (h : SetIs w b L) {p q : Nat} (hp : p < 1000000) (hq : q < 1000000) :
    (Instr.lookup 108 (.map (some b)) (prV p q) false).run Try.prog w = .ok (.bool (L.any fun x => x.1 == (p, q))) w := by
  obtain ⟨D, h1, h2⟩ := h
  obtain ⟨v, ps, hrun, hv⟩ := h1.lookup lawPr undMap (zeroBool w) (plainElem_bool undBool false) (keyPr hp hq)
  rw [h2 p q hp hq] at hv
  rw [hrun]
  unfold plainElem at hv
  rw [undBool] at hv
  cases v <;> simp at hv
  rw [hv.1]

/-- The map is written: all else that the call holds is as it was. -/
theorem Star.putSet {w0 w w' : World} {ps : List Ob} {b : Nat} {L L' : List PW} (S : Star w0 w (oSet b L :: ps)) (h : SetIs w' b L') (hg : w.grownBy w' (some b)) : Star w0 w' (oSet b L' :: ps) :=
  S.upd fun f hf _ hlt => ⟨f, ⟨h, hf.2⟩, by rw [hf.2]; simp, fun x hx => .inl hx, fun x hx => by
    rw [hf.2] at hx
    rw [List.mem_singleton.1 hx]
    obtain ⟨D, h1, -⟩ := h
    exact h1.lt, by
    rw [hf.2]
    exact ⟨hg.os, hg.tape, hg.output, hg.size, fun i hi hn => hg.block i hi (fun e => hn (by simp at e; simp [e]))⟩⟩

theorem st_put {w0 w : World} {ps : List Ob} {ops : Array Oper} {rest : List Oper} {o : Oper} {a : Act} {Q : Exit → Act → World → Prop} {m x v : Operand} {b p q : Nat} {L : List PW} (wd : List UInt8)
    (S : Star w0 w (oSet b L :: ps)) (hg : o.guard = none) (ho : o.op = .mapUpdate 108 m x v) (hm : a.eval m = .map (some b)) (hx : a.eval x = prV p q) (hv : a.eval v = .bool true)
    (hp : p < 1000000) (hq : q < 1000000) (hl : L.length < 1000000000000) (h : ∀ w', Star w0 w' (oSet b (L ++ [((p, q), wd)]) :: ps) → wpList Try.prog ops Q rest (a.put o.dst undef) w') : wpList Try.prog ops Q (o :: rest) a w := by
  refine wpList_plain hg fun K' hK' => ?_
  obtain ⟨w', hrun, r1, r2⟩ := (S.setIs 0 rfl).put hp hq hl wd
  unfold Oper.wp
  simp [execOp, ho, hm, hx, hv, hrun, Result.andThen]
  exact hK' _ _ (h w' (S.putSet r1 r2))

theorem sst_put {w0 w : World} {ps : List Ob} {ops : Array Oper} {o : Oper} {a : Act} {K : Act → World → Prop} {Q : Exit → Act → World → Prop} {X : Prop} {m x v : Operand} {b p q : Nat} {L : List PW} (wd : List UInt8)
    (S : Star w0 w (oSet b L :: ps)) (hg : o.guard = none) (ho : o.op = .insert 108 m x v) (hm : a.eval m = .map (some b)) (hx : a.eval x = prV p q) (hv : a.eval v = .bool true)
    (hp : p < 1000000) (hq : q < 1000000) (hl : L.length < 1000000000000) (h : ∀ w', Star w0 w' (oSet b (L ++ [((p, q), wd)]) :: ps) → K (a.put o.dst undef) w') : if Region.wanted o (yielded ops a.tmps) = true then Oper.wp Try.prog o a w K Q else X := by
  rw [if_pos (by simp [Region.wanted, hg])]
  obtain ⟨w', hrun, r1, r2⟩ := (S.setIs 0 rfl).put hp hq hl wd
  unfold Oper.wp
  simp [execOp, ho, hm, hx, hv, hrun, Result.andThen]
  exact h w' (S.putSet r1 r2)

theorem st_look {w0 w : World} {ps : List Ob} {ops : Array Oper} {rest : List Oper} {o : Oper} {a : Act} {Q : Exit → Act → World → Prop} {m x : Operand} {b p q : Nat} {L : List PW}
    (S : Star w0 w ps) (n : Nat) (hn : ps[n]? = some (oSet b L)) (hg : o.guard = none) (ho : o.op = .lookup 108 m x false) (hm : a.eval m = .map (some b)) (hx : a.eval x = prV p q)
    (hp : p < 1000000) (hq : q < 1000000) (h : wpList Try.prog ops Q rest (a.put o.dst (.bool (L.any fun y => y.1 == (p, q)))) w) : wpList Try.prog ops Q (o :: rest) a w := by
  refine wpList_plain hg fun K' hK' => ?_
  have hrun := (S.setIs n hn).look hp hq
  unfold Oper.wp
  simp [execOp, ho, hm, hx, hrun, Result.andThen]
  exact hK' _ _ h

end Go.Proofs.Ytmbecaiieibcjaa
