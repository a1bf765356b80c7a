/-
  What this claim leans on: values in cells, contracts of functions (11 texts of this claim's own, laid together).
-/
import Derived.Test.YtcifdkliiljmkaaGreatDoorPackA
/-
  Plain lemmas: all that a call holds of its own in one hypothesis ('Star': the blocks of its parts lie apart from each other), what each step does to it, and append (written in part by a program of this claim's own, gen_star.py).
-/
namespace Go.Proofs.YtcifdkliiljmkaaGreatDoor
open Go.RowKit

/-- No block in common. -/
def Dj (f h : List Nat) : Prop := ∀ b, b ∈ f → b ∉ h

theorem Dj.symm {f h : List Nat} (d : Dj f h) : Dj h f := fun b hb hf => d b hf hb
theorem Dj.nodup {f h : List Nat} (d : Dj f h) (nf : f.Nodup) (nh : h.Nodup) : (f ++ h).Nodup := by
  rw [List.nodup_append]
  exact ⟨nf, nh, fun a ha b hb e => d a ha (e ▸ hb)⟩

/-- A part: what holds of it in a world, with its blocks. -/
structure Ob where
  holds : World → List Nat → Prop
  frame : ∀ {w w' : World} {fp : List Nat}, (∀ b, b ∈ fp → w'.heap[b]? = w.heap[b]?) → holds w fp → holds w' fp

/-- A block with these cells. -/
def oB (b : Nat) (cs : List Value) (ty : TypeId) : Ob := ⟨fun w fp => Blk w b cs ty ∧ fp = [b], fun hf h => ⟨h.1.same (hf b (by rw [h.2]; simp)), h.2⟩⟩

/-- Cells that stand for a value of one's own. -/
def oE {α : Type} (E : Enc α) (cs : List Value) (a : α) : Ob := ⟨fun w fp => E.ow w cs a fp, fun hf h => E.ow_frame hf h⟩

/-- What a call that began in w0 holds of its own in w. -/
def Star (w0 w : World) (ps : List Ob) : Prop :=
  Below w0.heap.size w0 w ∧ ∃ fp : Nat → List Nat, (∀ i P, ps[i]? = some P → P.holds w (fp i) ∧ (fp i).Nodup ∧ ∀ b, b ∈ fp i → w0.heap.size ≤ b ∧ b < w.heap.size) ∧
    ∀ i j, i ≠ j → i < ps.length → j < ps.length → Dj (fp i) (fp j)

section
variable {w0 w w' : World} {ps : List Ob}

theorem Star.nil (w : World) : Star w w [] := ⟨Below.refl _ _, fun _ => [], fun i P h => by simp at h, fun i j _ hi => by simp at hi⟩

theorem Star.below (S : Star w0 w ps) : Below w0.heap.size w0 w := S.1

theorem Star.step (S : Star w0 w ps) (hb : Below w.heap.size w w') : Star w0 w' ps := by
  obtain ⟨B, fp, h, d⟩ := S
  refine ⟨B.trans (hb.mono B.size), fp, fun i P hP => ?_, d⟩
  obtain ⟨h1, h2, h3⟩ := h i P hP
  exact ⟨P.frame (fun b hm => hb.block b (h3 b hm).2) h1, h2, fun b hm => ⟨(h3 b hm).1, Nat.lt_of_lt_of_le (h3 b hm).2 hb.size⟩⟩

theorem Star.push (S : Star w0 w ps) {P : Ob} {f : List Nat} (hb : Below w.heap.size w w') (hP : P.holds w' f) (nd : f.Nodup) (lo : ∀ b, b ∈ f → w.heap.size ≤ b) (hi : ∀ b, b ∈ f → b < w'.heap.size) : Star w0 w' (P :: ps) := by
  obtain ⟨B, fp, h, d⟩ := S
  have hs := B.size
  refine ⟨B.trans (hb.mono hs), fun i => match i with | 0 => f | i + 1 => fp i, fun i Q hQ => ?_, fun i j hij hi hj => ?_⟩
  · cases i with
    | zero =>
      obtain rfl : P = Q := by simpa using hQ
      exact ⟨hP, nd, fun b hm => ⟨Nat.le_trans hs (lo b hm), hi b hm⟩⟩
    | succ i =>
      obtain ⟨h1, h2, h3⟩ := h i Q (by simpa using hQ)
      exact ⟨Q.frame (fun b hm => hb.block b (h3 b hm).2) h1, h2, fun b hm => ⟨(h3 b hm).1, Nat.lt_of_lt_of_le (h3 b hm).2 hb.size⟩⟩
  · have key : ∀ i, i < ps.length → Dj f (fp i) := by
      intro i hi b hb1 hb2
      have := lo b hb1
      have := ((h i _ (List.getElem?_eq_getElem hi)).2.2 b hb2).2
      omega
    cases i with
    | zero =>
      cases j with
      | zero => exact absurd rfl hij
      | succ j => exact key j (by simpa using hj)
    | succ i =>
      cases j with
      | zero => exact (key i (by simpa using hi)).symm
      | succ j => exact d i j (by omega) (by simpa using hi) (by simpa using hj)

theorem Star.alloc (S : Star w0 w ps) {cs : Array Value} {ty : TypeId} : Star w0 (w.alloc (.cells cs ty)) (oB w.heap.size cs.toList ty :: ps) :=
  S.push (f := [w.heap.size]) ((Below.refl _ _).alloc (Nat.le_refl _) _) ⟨Blk.new w cs ty, rfl⟩ (by simp) (fun b hb => by have e : b = w.heap.size := by simpa using hb
                                                                                                                          omega) (fun b hb => by have e : b = w.heap.size := by simpa using hb
                                                                                                                                                 rw [World.size_alloc]; omega)

/-- A call's result, of new memory. -/
theorem Star.made {α : Type} {E : Enc α} {cs : List Value} {a : α} {f : List Nat} (S : Star w0 w ps) (o : E.ow w' cs a f) (nd : f.Nodup) (lo : ∀ b, b ∈ f → w.heap.size ≤ b) (hb : Below w.heap.size w w') : Star w0 w' (oE E cs a :: ps) :=
  S.push (P := oE E cs a) hb o nd lo (E.ow_lt o)

theorem Star.flat {α : Type} {E : Enc α} {cs : List Value} {a : α} (S : Star w0 w ps) (o : E.ow w cs a []) : Star w0 w (oE E cs a :: ps) :=
  S.push (P := oE E cs a) (Below.refl _ _) o List.nodup_nil (fun b hb => by cases hb) (fun b hb => by cases hb)

/-- Some of the parts, in another order. -/
theorem Star.sel (S : Star w0 w ps) (is : List Nat) (hn : is.Nodup := by decide) (hl : ∀ i, i ∈ is → i < ps.length := by simp) : Star w0 w (is.filterMap fun i => ps[i]?) := by
  obtain ⟨B, fp, h, d⟩ := S
  have hf : ∀ is : List Nat, (∀ i, i ∈ is → i < ps.length) → (is.filterMap fun i => ps[i]?).length = is.length ∧ ∀ k : Nat, (is.filterMap fun i => ps[i]?)[k]? = (is[k]?).bind fun i => ps[i]? := by
    intro is
    induction is with
    | nil => intro _; exact ⟨rfl, fun k => by simp⟩
    | cons i is ih =>
      intro hl
      obtain ⟨i1, i2⟩ := ih (fun j hj => hl j (by simp [hj]))
      have hi := hl i (by simp)
      rw [List.filterMap_cons, List.getElem?_eq_getElem hi]
      refine ⟨by simp [i1], fun k => ?_⟩
      cases k with
      | zero => simp [List.getElem?_eq_getElem hi]
      | succ k => simpa using i2 k
  obtain ⟨e1, e2⟩ := hf is hl
  refine ⟨B, fun k => fp (is[k]?.getD 0), fun k P hP => ?_, fun i j hij hi hj => ?_⟩
  · rw [e2] at hP
    cases hk : is[k]? with
    | none => rw [hk] at hP; cases hP
    | some i => rw [hk] at hP; simp only [hk, Option.getD_some]; exact h i P hP
  · rw [e1] at hi hj
    have hi' := hl _ (List.getElem_mem hi)
    have hj' := hl _ (List.getElem_mem hj)
    show Dj (fp (is[i]?.getD 0)) (fp (is[j]?.getD 0))
    rw [List.getElem?_eq_getElem hi, List.getElem?_eq_getElem hj]
    refine d _ _ (fun e => hij ?_) hi' hj'
    have hp := List.pairwise_iff_getElem.1 hn
    rcases Nat.lt_trichotomy i j with hlt | hlt | hlt
    · exact absurd (by simpa using e) (hp i j hi hj hlt)
    · exact hlt
    · exact absurd (by simpa using e.symm) (hp j i hj hi hlt)

/-- One part turns into another; all others are as they were. -/
theorem Star.upd {P P' : Ob} (S : Star w0 w (P :: ps))
    (h : ∀ f, P.holds w f → f.Nodup → (∀ b, b ∈ f → b < w.heap.size) → ∃ f', P'.holds w' f' ∧ f'.Nodup ∧ (∀ b, b ∈ f' → b ∈ f ∨ w.heap.size ≤ b) ∧ (∀ b, b ∈ f' → b < w'.heap.size) ∧ But f w w') : Star w0 w' (P' :: ps) := by
  obtain ⟨B, fp, hh, d⟩ := S
  obtain ⟨p1, p2, p3⟩ := hh 0 P rfl
  obtain ⟨f', q1, q2, q3, q4, bt⟩ := h (fp 0) p1 p2 (fun b hb => (p3 b hb).2)
  have hs := B.size
  have hB : Below w0.heap.size w0 w' := B.trans (bt.below (fun b hb => (p3 b hb).1) hs)
  have hd0 : ∀ i, i < ps.length → Dj f' (fp (i + 1)) := by
    intro i hi b hb1 hb2
    rcases q3 b hb1 with h1 | h1
    · exact d 0 (i + 1) (by omega) (by simp) (by simpa using hi) b h1 hb2
    · have := ((hh (i + 1) _ (by rw [List.getElem?_cons_succ]; exact List.getElem?_eq_getElem hi)).2.2 b hb2).2
      omega
  refine ⟨hB, fun i => match i with | 0 => f' | i + 1 => fp (i + 1), fun i Q hQ => ?_, fun i j hij hi hj => ?_⟩
  · cases i with
    | zero =>
      obtain rfl : P' = Q := by simpa using hQ
      refine ⟨q1, q2, fun b hm => ⟨?_, q4 b hm⟩⟩
      rcases q3 b hm with h1 | h1
      · exact (p3 b h1).1
      · omega
    | succ i =>
      have hQ' : ps[i]? = some Q := by simpa using hQ
      obtain ⟨h1, h2, h3⟩ := hh (i + 1) Q hQ'
      have hil := (List.getElem?_eq_some_iff.1 hQ').1
      refine ⟨Q.frame (fun b hm => bt.block b (h3 b hm).2 (fun hf => ?_)) h1, h2, fun b hm => ⟨(h3 b hm).1, Nat.lt_of_lt_of_le (h3 b hm).2 bt.size⟩⟩
      exact d 0 (i + 1) (by omega) (by simp) (by simpa using hil) b hf hm
  · cases i with
    | zero =>
      cases j with
      | zero => exact absurd rfl hij
      | succ j => exact hd0 j (by simpa using hj)
    | succ i =>
      cases j with
      | zero => exact (hd0 i (by simpa using hi)).symm
      | succ j => exact d (i + 1) (j + 1) (by omega) hi hj

/-- Two parts turn into one. -/
theorem Star.join {P Q R : Ob} (S : Star w0 w (P :: Q :: ps)) (h : ∀ f g, P.holds w f → Q.holds w g → R.holds w (f ++ g)) : Star w0 w (R :: ps) := by
  obtain ⟨B, fp, hh, d⟩ := S
  obtain ⟨p1, p2, p3⟩ := hh 0 P rfl
  obtain ⟨q1, q2, q3⟩ := hh 1 Q rfl
  have hd0 : ∀ i, i < ps.length → Dj (fp 0 ++ fp 1) (fp (i + 2)) := by
    intro i hi b hb1 hb2
    rcases List.mem_append.1 hb1 with h1 | h1
    · exact d 0 (i + 2) (by omega) (by simp) (by simpa using hi) b h1 hb2
    · exact d 1 (i + 2) (by omega) (by simp) (by simpa using hi) b h1 hb2
  refine ⟨B, fun i => match i with | 0 => fp 0 ++ fp 1 | i + 1 => fp (i + 2), fun i Q hQ => ?_, fun i j hij hi hj => ?_⟩
  · cases i with
    | zero =>
      obtain rfl : R = Q := by simpa using hQ
      refine ⟨h _ _ p1 q1, (d 0 1 (by omega) (by simp) (by simp)).nodup p2 q2, fun b hm => ?_⟩
      rcases List.mem_append.1 hm with h1 | h1
      · exact p3 b h1
      · exact q3 b h1
    | succ i => exact hh (i + 2) Q (by simpa using hQ)
  · cases i with
    | zero =>
      cases j with
      | zero => exact absurd rfl hij
      | succ j => exact hd0 j (by simpa using hj)
    | succ i =>
      cases j with
      | zero => exact (hd0 i (by simpa using hi)).symm
      | succ j => exact d (i + 2) (j + 2) (by omega) (by simpa using hi) (by simpa using hj)

theorem Star.set {b : Nat} {cs : List Value} {ty : TypeId} (S : Star w0 w (oB b cs ty :: ps)) (i : Nat) (v : Value) : Star w0 (w.setCell ⟨b, i, none⟩ v) (oB b (cs.set i v) ty :: ps) :=
  S.upd fun f hf _ hl => ⟨f, ⟨hf.1.set i v, hf.2⟩, by rw [hf.2]; simp, fun b hb => .inl hb, fun b hb => by simpa using hl b hb, by rw [hf.2]; exact (But.refl _ _).setCell (by simp) _⟩

theorem Star.set4 {b : Nat} {cs : List Value} {ty : TypeId} {v0 v1 v2 v3 : Value} (S : Star w0 w (oB b cs ty :: ps)) (hl : cs.length = 4) (hW : (((w.setCell ⟨b, 0, none⟩ v0).setCell ⟨b, 1, none⟩ v1).setCell ⟨b, 2, none⟩ v2).setCell ⟨b, 3, none⟩ v3 = w') :
    Star w0 w' (oB b [v0, v1, v2, v3] ty :: ps) := by
  subst hW
  match cs, hl with
  | [_, _, _, _], _ => exact (((S.set 0 v0).set 1 v1).set 2 v2).set 3 v3

theorem Star.set3 {b : Nat} {cs : List Value} {ty : TypeId} {v0 v1 v2 : Value} (S : Star w0 w (oB b cs ty :: ps)) (hl : cs.length = 3) (hW : ((w.setCell ⟨b, 0, none⟩ v0).setCell ⟨b, 1, none⟩ v1).setCell ⟨b, 2, none⟩ v2 = w') :
    Star w0 w' (oB b [v0, v1, v2] ty :: ps) := by
  subst hW
  match cs, hl with
  | [_, _, _], _ => exact ((S.set 0 v0).set 1 v1).set 2 v2

theorem Star.blk (S : Star w0 w ps) (n : Nat) {b : Nat} {cs : List Value} {ty : TypeId} (h : ps[n]? = some (oB b cs ty)) : Blk w b cs ty := by
  obtain ⟨_, fp, hh, _⟩ := S
  exact (hh n _ h).1.1

theorem Star.own (S : Star w0 w ps) (n : Nat) {α : Type} {E : Enc α} {cs : List Value} {a : α} (h : ps[n]? = some (oE E cs a)) : ∃ f, E.ow w cs a f := by
  obtain ⟨_, fp, hh, _⟩ := S
  exact ⟨fp n, (hh n _ h).1⟩

theorem Star.rd (S : Star w0 w ps) (n : Nat) {α : Type} {E : Enc α} {cs : List Value} {a : α} (h : ps[n]? = some (oE E cs a)) : E.rd w w.heap.size cs a := by
  obtain ⟨f, o⟩ := S.own n h
  exact E.rd_ow o

theorem Star.slc (S : Star w0 w ps) (n : Nat) {α : Type} {E : Enc α} {t : TypeId} {v : Value} {a : List α} (h : ps[n]? = some (oE (sliceE E t) [v] a)) : ∃ sa sn sc, v = .slice sa sn sc := by
  obtain ⟨f, o⟩ := S.own n h
  exact ow_slice o

/-- What has just been written into a block, as a slice. -/
theorem Star.lit {α : Type} {E : Enc α} {ty : TypeId} {g : Nat} {vs : List Value} (S : Star w0 w (oB g vs ty :: ps)) (l : List α) (f : α → Value) (hv : vs = l.map f) (hE : E.size = 1) (hf : ∀ x, x ∈ l → E.ow w [f x] x []) (hl : l.length ≤ maxLen) :
    Star w0 w (oE (sliceE E ty) [.slice (some ⟨g, 0, none⟩) l.length l.length] l :: ps) :=
  S.upd fun q hq _ hlt => ⟨q, by rw [hq.2]; exact ow_lit f hE hf (hv ▸ hq.1) hl, by rw [hq.2]; simp, fun b hb => .inl hb, hlt, But.refl _ _⟩

theorem Star.lit0 {α : Type} {E : Enc α} {ty : TypeId} {g : Nat} (S : Star w0 w (oB g [] ty :: ps)) : Star w0 w (oE (sliceE E ty) [.slice (some ⟨g, 0, none⟩) 0 0] ([] : List α) :: ps) :=
  S.upd fun q hq _ hlt => ⟨q, by rw [hq.2]; exact ⟨_, [], [], rfl, .nil, ⟨by simp, .inr ⟨g, 0, #[], rfl, Nat.zero_le _, hq.1, Nat.le_refl _, Nat.zero_le _, by simp, by simp⟩⟩, by simp [Value.ownBlock]⟩, by rw [hq.2]; simp, fun b hb => .inl hb, hlt, But.refl _ _⟩

theorem Star.int (S : Star w0 w ps) {x : Int} (h : -9223372036854775808 ≤ x ∧ x ≤ 9223372036854775807) : Star w0 w (oE intE [Value.int .i64 x] x :: ps) := S.flat ⟨⟨rfl, h⟩, rfl⟩
theorem Star.bool (S : Star w0 w ps) {x : Bool} : Star w0 w (oE boolE [Value.bool x] x :: ps) := S.flat ⟨rfl, rfl⟩
theorem Star.str (S : Star w0 w ps) {x : ByteArray} (h : x.size ≤ maxLen) : Star w0 w (oE strE [Value.string x] x :: ps) := S.flat ⟨⟨rfl, h⟩, rfl⟩
theorem Star.move (S : Star w0 w ps) {x y : Int} (h : -9223372036854775808 ≤ x ∧ x ≤ 9223372036854775807) (k : -9223372036854775808 ≤ y ∧ y ≤ 9223372036854775807) : Star w0 w (oE moveE [Value.int .i64 x, Value.int .i64 y] ⟨x, y⟩ :: ps) :=
  S.flat ⟨[_], [_], [], [], rfl, rfl, ⟨⟨rfl, h⟩, rfl⟩, ⟨⟨rfl, k⟩, rfl⟩⟩
theorem Star.pmove (S : Star w0 w ps) {x y z : Int} (h : -9223372036854775808 ≤ x ∧ x ≤ 9223372036854775807) (k : -9223372036854775808 ≤ y ∧ y ≤ 9223372036854775807) (m : -9223372036854775808 ≤ z ∧ z ≤ 9223372036854775807) :
    Star w0 w (oE pmoveE [Value.int .i64 x, Value.int .i64 y, Value.int .i64 z] ⟨x, y, z⟩ :: ps) :=
  S.flat ⟨[_], [_, _], [], [], rfl, rfl, ⟨⟨rfl, h⟩, rfl⟩, ⟨[_], [_], [], [], rfl, rfl, ⟨⟨rfl, k⟩, rfl⟩, ⟨⟨rfl, m⟩, rfl⟩⟩⟩
theorem Star.nils {α : Type} (E : Enc α) (ty : TypeId) (S : Star w0 w ps) : Star w0 w (oE (sliceE E ty) [.slice none 0 0] [] :: ps) := S.flat (ow_nil E ty w)

/-- Two fields side by side. -/
theorem Star.pair {α β : Type} {E : Enc α} {F : Enc β} {c1 c2 : List Value} {x : α} {y : β} (S : Star w0 w (oE E c1 x :: oE F c2 y :: ps)) : Star w0 w (oE (pairE E F) (c1 ++ c2) (x, y) :: ps) :=
  S.join fun f g h1 h2 => ⟨c1, c2, f, g, rfl, rfl, h1, h2⟩

theorem Star.via {α β : Type} {E : Enc β} {F : α → β} {cs : List Value} {y : β} (S : Star w0 w (oE E cs y :: ps)) (x : α) (h : F x = y) : Star w0 w (oE (viaE E F) cs x :: ps) :=
  S.upd fun q hq hn hlt => ⟨q, (by show E.ow w cs (F x) q; rw [h]; exact hq), hn, fun b hb => .inl hb, hlt, But.refl _ _⟩

/-- What is handed back. -/
theorem Star.out {α : Type} {E : Enc α} {cs : List Value} {a : α} (S : Star w0 w (oE E cs a :: ps)) : ∃ f, E.ow w cs a f ∧ f.Nodup ∧ ∀ b, b ∈ f → w0.heap.size ≤ b := by
  obtain ⟨_, fp, hh, _⟩ := S
  obtain ⟨h1, h2, h3⟩ := hh 0 _ rfl
  exact ⟨_, h1, h2, fun b hb => (h3 b hb).1⟩

theorem Star.done {α : Type} {E : Enc α} {cs : List Value} {x : α × Int} (S : Star w0 w (oE E cs x.1 :: ps)) : MakesC E x w0 (.returned (.tuple #[.agg cs.toArray, .int .i64 x.2])) w := by
  obtain ⟨f, h1, h2, h3⟩ := S.out
  exact ⟨cs, f, rfl, h1, h2, h3, S.below⟩

theorem Star.done1 {α : Type} {E : Enc α} {v : Value} {x : α} (S : Star w0 w (oE E [v] x :: ps)) : Makes E id x w0 (.returned v) w := by
  obtain ⟨f, h1, h2, h3⟩ := S.out
  exact ⟨v, f, rfl, h1, h2, h3, S.below⟩
end

theorem cell_a1 {w : World} {cs : List Value} {ty : TypeId} : ∀ j u, cs[j]? = some u → (w.alloc (.cells cs.toArray ty)).cell? ⟨w.heap.size, j, none⟩ = some u := fun j _ hu => (Blk.new w cs.toArray ty).cell j (by simpa using hu)
theorem cell_a2 {w : World} {o : Obj} {cs : List Value} {ty : TypeId} : ∀ j u, cs[j]? = some u → ((w.alloc o).alloc (.cells cs.toArray ty)).cell? ⟨w.heap.size + 1, j, none⟩ = some u := fun j _ hu => by
  have := (Blk.new (w.alloc o) cs.toArray ty).cell j (v := _) (by simpa using hu)
  simpa using this
theorem cell_a3 {w : World} {o p : Obj} {cs : List Value} {ty : TypeId} : ∀ j u, cs[j]? = some u → (((w.alloc o).alloc p).alloc (.cells cs.toArray ty)).cell? ⟨w.heap.size + 1 + 1, j, none⟩ = some u := fun j _ hu => by
  have := (Blk.new ((w.alloc o).alloc p) cs.toArray ty).cell j (v := _) (by simpa using hu)
  simpa using this

theorem cell_s1 {w : World} {a : Addr} {v : Value} {cs : List Value} {ty : TypeId} : ∀ j u, cs[j]? = some u → ((w.setCell a v).alloc (.cells cs.toArray ty)).cell? ⟨w.heap.size, j, none⟩ = some u := fun j _ hu => by
  have := (Blk.new (w.setCell a v) cs.toArray ty).cell j (v := _) (by simpa using hu)
  simpa using this

theorem int_in (x : Int) (h : -9223372036854775808 ≤ x ∧ x ≤ 9223372036854775807) (w : World) : ∀ y, y ∈ [x] → intE.ow w [Value.int .i64 y] y [] := fun y hy => by
  have e : y = x := by simpa using hy
  subst e; exact ⟨⟨rfl, h⟩, rfl⟩
theorem int_in2 (x y : Int) (h : -9223372036854775808 ≤ x ∧ x ≤ 9223372036854775807) (k : -9223372036854775808 ≤ y ∧ y ≤ 9223372036854775807) (w : World) : ∀ z, z ∈ [x, y] → intE.ow w [Value.int .i64 z] z [] := fun z hz => by
  rcases List.mem_cons.1 hz with e | e
  · subst e; exact ⟨⟨rfl, h⟩, rfl⟩
  · have e : z = y := by simpa using e
    subst e; exact ⟨⟨rfl, k⟩, rfl⟩

theorem one_mem2 {v u : Value} (h : v.oneCell' = true) (k : u.oneCell' = true) : ∀ x, x ∈ [v, u] → x.oneCell' = true := by
  intro x hx
  rcases List.mem_cons.1 hx with e | e
  · rw [e]; exact h
  · exact one_mem k x e
theorem one_mem3 {v u t : Value} (h : v.oneCell' = true) (k : u.oneCell' = true) (m : t.oneCell' = true) : ∀ x, x ∈ [v, u, t] → x.oneCell' = true := by
  intro x hx
  rcases List.mem_cons.1 hx with e | e
  · rw [e]; exact h
  · exact one_mem2 k m x e

theorem take_range_map {α : Type} (f : Nat → α) (n k : Nat) (h : k < n) : ((List.range n).map f).take (k + 1) = ((List.range n).map f).take k ++ [f k] := by
  rw [List.take_succ_eq_append_getElem (by simpa using h)]
  simp

theorem take_range_all {α : Type} (f : Nat → α) (n : Nat) : ((List.range n).map f).take n = (List.range n).map f := List.take_of_length_le (by simp)

theorem take_range_len {α : Type} (f : Nat → α) (n k : Nat) (h : k ≤ n) : (((List.range n).map f).take k).length = k := by simp; omega

theorem take_map_succ {α β : Type} (d : α) (f : α → β) (l : List α) (k : Nat) (h : k < l.length) : (l.take (k + 1)).map f = (l.take k).map f ++ [f (l[k]?.getD d)] := by
  rw [List.take_succ_eq_append_getElem h, List.map_append]
  simp [List.getElem?_eq_getElem h]

theorem sum_map_le {α : Type} (f : α → Nat) (c : Nat) (l : List α) (h : ∀ x, x ∈ l → f x ≤ c) : (l.map f).sum ≤ l.length * c := by
  induction l with
  | nil => simp
  | cons a l ih =>
    rw [List.map_cons, List.sum_cons, List.length_cons, Nat.succ_mul]
    have := h a (by simp); have := ih (fun x hx => h x (by simp [hx])); omega

/-- append of one element, itself a part, to a slice of Int. -/
theorem st1_Int64S {w0 w : World} {ps : List Ob} {ops : Array Oper} {rest : List Oper} {o : Oper} {a : Act} {Q : Exit → Act → World → Prop} {s x : Operand} {v : Value} {l : List (Int)} {b c : Nat} {y : Int} {cs : List Value}
    (S : Star w0 w (oE (sliceE intE 2) [v] l :: oE intE cs y :: ps)) (hgd : o.guard = none)
    (ho : o.op = .call { callee := .builtin .append, args := #[s, x], argTypes := #[89, 89] }) (hv : a.eval s = v)
    (hx : a.eval x = .slice (some ⟨b, 0, none⟩) 1 c) (hc : ∀ j u, cs[j]? = some u → w.cell? ⟨b, j, none⟩ = some u) (h1 : ∀ u, u ∈ cs → u.oneCell' = true) (hlen : l.length ≤ 1000000000000)
    (h : ∀ sa sn sc w', Star w0 w' (oE (sliceE intE 2) [.slice sa sn sc] (l ++ [y]) :: ps) → wpList Tryz.prog ops Q rest (a.put o.dst (.slice sa sn sc)) w') : wpList Tryz.prog ops Q (o :: rest) a w := by
  obtain ⟨B, fp, hh, d⟩ := S
  obtain ⟨p1, p2, p3⟩ := hh 0 _ rfl
  obtain ⟨q1, q2, q3⟩ := hh 1 _ rfl
  have d01 := d 1 0 (by omega) (by simp) (by simp)
  refine app1_Int64S hgd s x ho hv p1 p2 hx hc h1 q1 q2 d01 hlen (fun v' w' fp' k1 k2 k3 k4 => ?_)
  obtain ⟨sa, sn, sc, rfl⟩ := ow_slice k1
  refine h sa sn sc w' ⟨B.trans (k4.below (fun b hb => (p3 b hb).1) B.size), fun i => match i with | 0 => fp' | i + 1 => fp (i + 2), fun i Q hQ => ?_, fun i j hij hi hj => ?_⟩
  · cases i with
    | zero =>
      obtain rfl : _ = Q := by simpa using hQ
      refine ⟨k1, k2, fun b hm => ⟨?_, Enc.ow_lt _ k1 b hm⟩⟩
      rcases k3 b hm with h1 | h1 | h1
      · exact (p3 b h1).1
      · exact (q3 b h1).1
      · have := B.size; omega
    | succ i =>
      have hQ' : ps[i]? = some Q := by simpa using hQ
      obtain ⟨h1, h2, h3⟩ := hh (i + 2) Q hQ'
      have hil := (List.getElem?_eq_some_iff.1 hQ').1
      refine ⟨Q.frame (fun b hm => k4.block b (h3 b hm).2 (fun hf => ?_)) h1, h2, fun b hm => ⟨(h3 b hm).1, Nat.lt_of_lt_of_le (h3 b hm).2 k4.size⟩⟩
      exact d 0 (i + 2) (by omega) (by simp) (by simpa using hil) b hf hm
  · have hd0 : ∀ i, i < ps.length → Dj fp' (fp (i + 2)) := by
      intro i hi b hb1 hb2
      rcases k3 b hb1 with h1 | h1 | h1
      · exact d 0 (i + 2) (by omega) (by simp) (by simpa using hi) b h1 hb2
      · exact d 1 (i + 2) (by omega) (by simp) (by simpa using hi) b h1 hb2
      · have := ((hh (i + 2) _ (by rw [List.getElem?_cons_succ, List.getElem?_cons_succ]; exact List.getElem?_eq_getElem hi)).2.2 b hb2).2
        omega
    cases i with
    | zero =>
      cases j with
      | zero => exact absurd rfl hij
      | succ j => exact hd0 j (by simpa using hj)
    | succ i =>
      cases j with
      | zero => exact (hd0 i (by simpa using hi)).symm
      | succ j => exact d (i + 2) (j + 2) (by omega) (by simpa using hi) (by simpa using hj)

/-- append of several elements that lead nowhere. -/
theorem stS_Int64S {w0 w : World} {ps : List Ob} {ops : Array Oper} {rest : List Oper} {o : Oper} {a : Act} {Q : Exit → Act → World → Prop} {s x : Operand} {v : Value} {l : List (Int)} {ys : List (Int)} {css : List (List Value)} {fys : List (List Nat)}
    (S : Star w0 w (oE (sliceE intE 2) [v] l :: ps)) (hgd : o.guard = none)
    (ho : o.op = .call { callee := .builtin .append, args := #[s, x], argTypes := #[89, 89] }) (hv : a.eval s = v)
    (hys : OwAll (intE) w ys css fys) (hfy : fys.flatten = []) (hs : SrcS w (intE).size (a.eval x) ys.length css.flatten) (hlen : l.length + ys.length ≤ 1000000000000)
    (h : ∀ sa sn sc w', Star w0 w' (oE (sliceE intE 2) [.slice sa sn sc] (l ++ ys) :: ps) → wpList Tryz.prog ops Q rest (a.put o.dst (.slice sa sn sc)) w') : wpList Tryz.prog ops Q (o :: rest) a w := by
  obtain ⟨B, fp, hh, d⟩ := S
  obtain ⟨p1, p2, p3⟩ := hh 0 _ rfl
  refine appS_Int64S hgd s x ho hv p1 hys hs (by rw [hfy, List.append_nil]; exact p2) hlen (fun v' w' fp' k1 k2 k3 k4 => ?_)
  rw [hfy] at k3
  obtain ⟨sa, sn, sc, rfl⟩ := ow_slice k1
  refine h sa sn sc w' ⟨B.trans (k4.below (fun b hb => (p3 b hb).1) B.size), fun i => match i with | 0 => fp' | i + 1 => fp (i + 1), fun i Q hQ => ?_, fun i j hij hi hj => ?_⟩
  · cases i with
    | zero =>
      obtain rfl : _ = Q := by simpa using hQ
      refine ⟨k1, k2, fun b hm => ⟨?_, Enc.ow_lt _ k1 b hm⟩⟩
      rcases k3 b hm with h1 | h1 | h1
      · exact (p3 b h1).1
      · cases h1
      · have := B.size; omega
    | succ i =>
      have hQ' : ps[i]? = some Q := by simpa using hQ
      obtain ⟨h1, h2, h3⟩ := hh (i + 1) Q hQ'
      have hil := (List.getElem?_eq_some_iff.1 hQ').1
      refine ⟨Q.frame (fun b hm => k4.block b (h3 b hm).2 (fun hf => ?_)) h1, h2, fun b hm => ⟨(h3 b hm).1, Nat.lt_of_lt_of_le (h3 b hm).2 k4.size⟩⟩
      exact d 0 (i + 1) (by omega) (by simp) (by simpa using hil) b hf hm
  · have hd0 : ∀ i, i < ps.length → Dj fp' (fp (i + 1)) := by
      intro i hi b hb1 hb2
      rcases k3 b hb1 with h1 | h1 | h1
      · exact d 0 (i + 1) (by omega) (by simp) (by simpa using hi) b h1 hb2
      · cases h1
      · have := ((hh (i + 1) _ (by rw [List.getElem?_cons_succ]; exact List.getElem?_eq_getElem hi)).2.2 b hb2).2
        omega
    cases i with
    | zero =>
      cases j with
      | zero => exact absurd rfl hij
      | succ j => exact hd0 j (by simpa using hj)
    | succ i =>
      cases j with
      | zero => exact (hd0 i (by simpa using hi)).symm
      | succ j => exact d (i + 1) (j + 1) (by omega) (by simpa using hi) (by simpa using hj)

/-- append of one element, itself a part, to a slice of Bool. -/
theorem st1_BoolS {w0 w : World} {ps : List Ob} {ops : Array Oper} {rest : List Oper} {o : Oper} {a : Act} {Q : Exit → Act → World → Prop} {s x : Operand} {v : Value} {l : List (Bool)} {b c : Nat} {y : Bool} {cs : List Value}
    (S : Star w0 w (oE (sliceE boolE 4) [v] l :: oE boolE cs y :: ps)) (hgd : o.guard = none)
    (ho : o.op = .call { callee := .builtin .append, args := #[s, x], argTypes := #[28, 28] }) (hv : a.eval s = v)
    (hx : a.eval x = .slice (some ⟨b, 0, none⟩) 1 c) (hc : ∀ j u, cs[j]? = some u → w.cell? ⟨b, j, none⟩ = some u) (h1 : ∀ u, u ∈ cs → u.oneCell' = true) (hlen : l.length ≤ 1000000000000)
    (h : ∀ sa sn sc w', Star w0 w' (oE (sliceE boolE 4) [.slice sa sn sc] (l ++ [y]) :: ps) → wpList Tryz.prog ops Q rest (a.put o.dst (.slice sa sn sc)) w') : wpList Tryz.prog ops Q (o :: rest) a w := by
  obtain ⟨B, fp, hh, d⟩ := S
  obtain ⟨p1, p2, p3⟩ := hh 0 _ rfl
  obtain ⟨q1, q2, q3⟩ := hh 1 _ rfl
  have d01 := d 1 0 (by omega) (by simp) (by simp)
  refine app1_BoolS hgd s x ho hv p1 p2 hx hc h1 q1 q2 d01 hlen (fun v' w' fp' k1 k2 k3 k4 => ?_)
  obtain ⟨sa, sn, sc, rfl⟩ := ow_slice k1
  refine h sa sn sc w' ⟨B.trans (k4.below (fun b hb => (p3 b hb).1) B.size), fun i => match i with | 0 => fp' | i + 1 => fp (i + 2), fun i Q hQ => ?_, fun i j hij hi hj => ?_⟩
  · cases i with
    | zero =>
      obtain rfl : _ = Q := by simpa using hQ
      refine ⟨k1, k2, fun b hm => ⟨?_, Enc.ow_lt _ k1 b hm⟩⟩
      rcases k3 b hm with h1 | h1 | h1
      · exact (p3 b h1).1
      · exact (q3 b h1).1
      · have := B.size; omega
    | succ i =>
      have hQ' : ps[i]? = some Q := by simpa using hQ
      obtain ⟨h1, h2, h3⟩ := hh (i + 2) Q hQ'
      have hil := (List.getElem?_eq_some_iff.1 hQ').1
      refine ⟨Q.frame (fun b hm => k4.block b (h3 b hm).2 (fun hf => ?_)) h1, h2, fun b hm => ⟨(h3 b hm).1, Nat.lt_of_lt_of_le (h3 b hm).2 k4.size⟩⟩
      exact d 0 (i + 2) (by omega) (by simp) (by simpa using hil) b hf hm
  · have hd0 : ∀ i, i < ps.length → Dj fp' (fp (i + 2)) := by
      intro i hi b hb1 hb2
      rcases k3 b hb1 with h1 | h1 | h1
      · exact d 0 (i + 2) (by omega) (by simp) (by simpa using hi) b h1 hb2
      · exact d 1 (i + 2) (by omega) (by simp) (by simpa using hi) b h1 hb2
      · have := ((hh (i + 2) _ (by rw [List.getElem?_cons_succ, List.getElem?_cons_succ]; exact List.getElem?_eq_getElem hi)).2.2 b hb2).2
        omega
    cases i with
    | zero =>
      cases j with
      | zero => exact absurd rfl hij
      | succ j => exact hd0 j (by simpa using hj)
    | succ i =>
      cases j with
      | zero => exact (hd0 i (by simpa using hi)).symm
      | succ j => exact d (i + 2) (j + 2) (by omega) (by simpa using hi) (by simpa using hj)

/-- append of several elements that lead nowhere. -/
theorem stS_BoolS {w0 w : World} {ps : List Ob} {ops : Array Oper} {rest : List Oper} {o : Oper} {a : Act} {Q : Exit → Act → World → Prop} {s x : Operand} {v : Value} {l : List (Bool)} {ys : List (Bool)} {css : List (List Value)} {fys : List (List Nat)}
    (S : Star w0 w (oE (sliceE boolE 4) [v] l :: ps)) (hgd : o.guard = none)
    (ho : o.op = .call { callee := .builtin .append, args := #[s, x], argTypes := #[28, 28] }) (hv : a.eval s = v)
    (hys : OwAll (boolE) w ys css fys) (hfy : fys.flatten = []) (hs : SrcS w (boolE).size (a.eval x) ys.length css.flatten) (hlen : l.length + ys.length ≤ 1000000000000)
    (h : ∀ sa sn sc w', Star w0 w' (oE (sliceE boolE 4) [.slice sa sn sc] (l ++ ys) :: ps) → wpList Tryz.prog ops Q rest (a.put o.dst (.slice sa sn sc)) w') : wpList Tryz.prog ops Q (o :: rest) a w := by
  obtain ⟨B, fp, hh, d⟩ := S
  obtain ⟨p1, p2, p3⟩ := hh 0 _ rfl
  refine appS_BoolS hgd s x ho hv p1 hys hs (by rw [hfy, List.append_nil]; exact p2) hlen (fun v' w' fp' k1 k2 k3 k4 => ?_)
  rw [hfy] at k3
  obtain ⟨sa, sn, sc, rfl⟩ := ow_slice k1
  refine h sa sn sc w' ⟨B.trans (k4.below (fun b hb => (p3 b hb).1) B.size), fun i => match i with | 0 => fp' | i + 1 => fp (i + 1), fun i Q hQ => ?_, fun i j hij hi hj => ?_⟩
  · cases i with
    | zero =>
      obtain rfl : _ = Q := by simpa using hQ
      refine ⟨k1, k2, fun b hm => ⟨?_, Enc.ow_lt _ k1 b hm⟩⟩
      rcases k3 b hm with h1 | h1 | h1
      · exact (p3 b h1).1
      · cases h1
      · have := B.size; omega
    | succ i =>
      have hQ' : ps[i]? = some Q := by simpa using hQ
      obtain ⟨h1, h2, h3⟩ := hh (i + 1) Q hQ'
      have hil := (List.getElem?_eq_some_iff.1 hQ').1
      refine ⟨Q.frame (fun b hm => k4.block b (h3 b hm).2 (fun hf => ?_)) h1, h2, fun b hm => ⟨(h3 b hm).1, Nat.lt_of_lt_of_le (h3 b hm).2 k4.size⟩⟩
      exact d 0 (i + 1) (by omega) (by simp) (by simpa using hil) b hf hm
  · have hd0 : ∀ i, i < ps.length → Dj fp' (fp (i + 1)) := by
      intro i hi b hb1 hb2
      rcases k3 b hb1 with h1 | h1 | h1
      · exact d 0 (i + 1) (by omega) (by simp) (by simpa using hi) b h1 hb2
      · cases h1
      · have := ((hh (i + 1) _ (by rw [List.getElem?_cons_succ]; exact List.getElem?_eq_getElem hi)).2.2 b hb2).2
        omega
    cases i with
    | zero =>
      cases j with
      | zero => exact absurd rfl hij
      | succ j => exact hd0 j (by simpa using hj)
    | succ i =>
      cases j with
      | zero => exact (hd0 i (by simpa using hi)).symm
      | succ j => exact d (i + 1) (j + 1) (by omega) (by simpa using hi) (by simpa using hj)

/-- append of one element, itself a part, to a slice of ByteArray. -/
theorem st1_StringS {w0 w : World} {ps : List Ob} {ops : Array Oper} {rest : List Oper} {o : Oper} {a : Act} {Q : Exit → Act → World → Prop} {s x : Operand} {v : Value} {l : List (ByteArray)} {b c : Nat} {y : ByteArray} {cs : List Value}
    (S : Star w0 w (oE (sliceE strE 9) [v] l :: oE strE cs y :: ps)) (hgd : o.guard = none)
    (ho : o.op = .call { callee := .builtin .append, args := #[s, x], argTypes := #[51, 51] }) (hv : a.eval s = v)
    (hx : a.eval x = .slice (some ⟨b, 0, none⟩) 1 c) (hc : ∀ j u, cs[j]? = some u → w.cell? ⟨b, j, none⟩ = some u) (h1 : ∀ u, u ∈ cs → u.oneCell' = true) (hlen : l.length ≤ 1000000000000)
    (h : ∀ sa sn sc w', Star w0 w' (oE (sliceE strE 9) [.slice sa sn sc] (l ++ [y]) :: ps) → wpList Tryz.prog ops Q rest (a.put o.dst (.slice sa sn sc)) w') : wpList Tryz.prog ops Q (o :: rest) a w := by
  obtain ⟨B, fp, hh, d⟩ := S
  obtain ⟨p1, p2, p3⟩ := hh 0 _ rfl
  obtain ⟨q1, q2, q3⟩ := hh 1 _ rfl
  have d01 := d 1 0 (by omega) (by simp) (by simp)
  refine app1_StringS hgd s x ho hv p1 p2 hx hc h1 q1 q2 d01 hlen (fun v' w' fp' k1 k2 k3 k4 => ?_)
  obtain ⟨sa, sn, sc, rfl⟩ := ow_slice k1
  refine h sa sn sc w' ⟨B.trans (k4.below (fun b hb => (p3 b hb).1) B.size), fun i => match i with | 0 => fp' | i + 1 => fp (i + 2), fun i Q hQ => ?_, fun i j hij hi hj => ?_⟩
  · cases i with
    | zero =>
      obtain rfl : _ = Q := by simpa using hQ
      refine ⟨k1, k2, fun b hm => ⟨?_, Enc.ow_lt _ k1 b hm⟩⟩
      rcases k3 b hm with h1 | h1 | h1
      · exact (p3 b h1).1
      · exact (q3 b h1).1
      · have := B.size; omega
    | succ i =>
      have hQ' : ps[i]? = some Q := by simpa using hQ
      obtain ⟨h1, h2, h3⟩ := hh (i + 2) Q hQ'
      have hil := (List.getElem?_eq_some_iff.1 hQ').1
      refine ⟨Q.frame (fun b hm => k4.block b (h3 b hm).2 (fun hf => ?_)) h1, h2, fun b hm => ⟨(h3 b hm).1, Nat.lt_of_lt_of_le (h3 b hm).2 k4.size⟩⟩
      exact d 0 (i + 2) (by omega) (by simp) (by simpa using hil) b hf hm
  · have hd0 : ∀ i, i < ps.length → Dj fp' (fp (i + 2)) := by
      intro i hi b hb1 hb2
      rcases k3 b hb1 with h1 | h1 | h1
      · exact d 0 (i + 2) (by omega) (by simp) (by simpa using hi) b h1 hb2
      · exact d 1 (i + 2) (by omega) (by simp) (by simpa using hi) b h1 hb2
      · have := ((hh (i + 2) _ (by rw [List.getElem?_cons_succ, List.getElem?_cons_succ]; exact List.getElem?_eq_getElem hi)).2.2 b hb2).2
        omega
    cases i with
    | zero =>
      cases j with
      | zero => exact absurd rfl hij
      | succ j => exact hd0 j (by simpa using hj)
    | succ i =>
      cases j with
      | zero => exact (hd0 i (by simpa using hi)).symm
      | succ j => exact d (i + 2) (j + 2) (by omega) (by simpa using hi) (by simpa using hj)

/-- append of several elements that lead nowhere. -/
theorem stS_StringS {w0 w : World} {ps : List Ob} {ops : Array Oper} {rest : List Oper} {o : Oper} {a : Act} {Q : Exit → Act → World → Prop} {s x : Operand} {v : Value} {l : List (ByteArray)} {ys : List (ByteArray)} {css : List (List Value)} {fys : List (List Nat)}
    (S : Star w0 w (oE (sliceE strE 9) [v] l :: ps)) (hgd : o.guard = none)
    (ho : o.op = .call { callee := .builtin .append, args := #[s, x], argTypes := #[51, 51] }) (hv : a.eval s = v)
    (hys : OwAll (strE) w ys css fys) (hfy : fys.flatten = []) (hs : SrcS w (strE).size (a.eval x) ys.length css.flatten) (hlen : l.length + ys.length ≤ 1000000000000)
    (h : ∀ sa sn sc w', Star w0 w' (oE (sliceE strE 9) [.slice sa sn sc] (l ++ ys) :: ps) → wpList Tryz.prog ops Q rest (a.put o.dst (.slice sa sn sc)) w') : wpList Tryz.prog ops Q (o :: rest) a w := by
  obtain ⟨B, fp, hh, d⟩ := S
  obtain ⟨p1, p2, p3⟩ := hh 0 _ rfl
  refine appS_StringS hgd s x ho hv p1 hys hs (by rw [hfy, List.append_nil]; exact p2) hlen (fun v' w' fp' k1 k2 k3 k4 => ?_)
  rw [hfy] at k3
  obtain ⟨sa, sn, sc, rfl⟩ := ow_slice k1
  refine h sa sn sc w' ⟨B.trans (k4.below (fun b hb => (p3 b hb).1) B.size), fun i => match i with | 0 => fp' | i + 1 => fp (i + 1), fun i Q hQ => ?_, fun i j hij hi hj => ?_⟩
  · cases i with
    | zero =>
      obtain rfl : _ = Q := by simpa using hQ
      refine ⟨k1, k2, fun b hm => ⟨?_, Enc.ow_lt _ k1 b hm⟩⟩
      rcases k3 b hm with h1 | h1 | h1
      · exact (p3 b h1).1
      · cases h1
      · have := B.size; omega
    | succ i =>
      have hQ' : ps[i]? = some Q := by simpa using hQ
      obtain ⟨h1, h2, h3⟩ := hh (i + 1) Q hQ'
      have hil := (List.getElem?_eq_some_iff.1 hQ').1
      refine ⟨Q.frame (fun b hm => k4.block b (h3 b hm).2 (fun hf => ?_)) h1, h2, fun b hm => ⟨(h3 b hm).1, Nat.lt_of_lt_of_le (h3 b hm).2 k4.size⟩⟩
      exact d 0 (i + 1) (by omega) (by simp) (by simpa using hil) b hf hm
  · have hd0 : ∀ i, i < ps.length → Dj fp' (fp (i + 1)) := by
      intro i hi b hb1 hb2
      rcases k3 b hb1 with h1 | h1 | h1
      · exact d 0 (i + 1) (by omega) (by simp) (by simpa using hi) b h1 hb2
      · cases h1
      · have := ((hh (i + 1) _ (by rw [List.getElem?_cons_succ]; exact List.getElem?_eq_getElem hi)).2.2 b hb2).2
        omega
    cases i with
    | zero =>
      cases j with
      | zero => exact absurd rfl hij
      | succ j => exact hd0 j (by simpa using hj)
    | succ i =>
      cases j with
      | zero => exact (hd0 i (by simpa using hi)).symm
      | succ j => exact d (i + 1) (j + 1) (by omega) (by simpa using hi) (by simpa using hj)

/-- append of one element, itself a part, to a slice of List Int. -/
theorem st1_Int64SS {w0 w : World} {ps : List Ob} {ops : Array Oper} {rest : List Oper} {o : Oper} {a : Act} {Q : Exit → Act → World → Prop} {s x : Operand} {v : Value} {l : List (List Int)} {b c : Nat} {y : List Int} {cs : List Value}
    (S : Star w0 w (oE (sliceE intsE 89) [v] l :: oE intsE cs y :: ps)) (hgd : o.guard = none)
    (ho : o.op = .call { callee := .builtin .append, args := #[s, x], argTypes := #[29, 29] }) (hv : a.eval s = v)
    (hx : a.eval x = .slice (some ⟨b, 0, none⟩) 1 c) (hc : ∀ j u, cs[j]? = some u → w.cell? ⟨b, j, none⟩ = some u) (h1 : ∀ u, u ∈ cs → u.oneCell' = true) (hlen : l.length ≤ 1000000000000)
    (h : ∀ sa sn sc w', Star w0 w' (oE (sliceE intsE 89) [.slice sa sn sc] (l ++ [y]) :: ps) → wpList Tryz.prog ops Q rest (a.put o.dst (.slice sa sn sc)) w') : wpList Tryz.prog ops Q (o :: rest) a w := by
  obtain ⟨B, fp, hh, d⟩ := S
  obtain ⟨p1, p2, p3⟩ := hh 0 _ rfl
  obtain ⟨q1, q2, q3⟩ := hh 1 _ rfl
  have d01 := d 1 0 (by omega) (by simp) (by simp)
  refine app1_Int64SS hgd s x ho hv p1 p2 hx hc h1 q1 q2 d01 hlen (fun v' w' fp' k1 k2 k3 k4 => ?_)
  obtain ⟨sa, sn, sc, rfl⟩ := ow_slice k1
  refine h sa sn sc w' ⟨B.trans (k4.below (fun b hb => (p3 b hb).1) B.size), fun i => match i with | 0 => fp' | i + 1 => fp (i + 2), fun i Q hQ => ?_, fun i j hij hi hj => ?_⟩
  · cases i with
    | zero =>
      obtain rfl : _ = Q := by simpa using hQ
      refine ⟨k1, k2, fun b hm => ⟨?_, Enc.ow_lt _ k1 b hm⟩⟩
      rcases k3 b hm with h1 | h1 | h1
      · exact (p3 b h1).1
      · exact (q3 b h1).1
      · have := B.size; omega
    | succ i =>
      have hQ' : ps[i]? = some Q := by simpa using hQ
      obtain ⟨h1, h2, h3⟩ := hh (i + 2) Q hQ'
      have hil := (List.getElem?_eq_some_iff.1 hQ').1
      refine ⟨Q.frame (fun b hm => k4.block b (h3 b hm).2 (fun hf => ?_)) h1, h2, fun b hm => ⟨(h3 b hm).1, Nat.lt_of_lt_of_le (h3 b hm).2 k4.size⟩⟩
      exact d 0 (i + 2) (by omega) (by simp) (by simpa using hil) b hf hm
  · have hd0 : ∀ i, i < ps.length → Dj fp' (fp (i + 2)) := by
      intro i hi b hb1 hb2
      rcases k3 b hb1 with h1 | h1 | h1
      · exact d 0 (i + 2) (by omega) (by simp) (by simpa using hi) b h1 hb2
      · exact d 1 (i + 2) (by omega) (by simp) (by simpa using hi) b h1 hb2
      · have := ((hh (i + 2) _ (by rw [List.getElem?_cons_succ, List.getElem?_cons_succ]; exact List.getElem?_eq_getElem hi)).2.2 b hb2).2
        omega
    cases i with
    | zero =>
      cases j with
      | zero => exact absurd rfl hij
      | succ j => exact hd0 j (by simpa using hj)
    | succ i =>
      cases j with
      | zero => exact (hd0 i (by simpa using hi)).symm
      | succ j => exact d (i + 2) (j + 2) (by omega) (by simpa using hi) (by simpa using hj)

/-- append of one element, itself a part, to a slice of List ByteArray. -/
theorem st1_StringSS {w0 w : World} {ps : List Ob} {ops : Array Oper} {rest : List Oper} {o : Oper} {a : Act} {Q : Exit → Act → World → Prop} {s x : Operand} {v : Value} {l : List (List ByteArray)} {b c : Nat} {y : List ByteArray} {cs : List Value}
    (S : Star w0 w (oE (sliceE strsE 51) [v] l :: oE strsE cs y :: ps)) (hgd : o.guard = none)
    (ho : o.op = .call { callee := .builtin .append, args := #[s, x], argTypes := #[25, 25] }) (hv : a.eval s = v)
    (hx : a.eval x = .slice (some ⟨b, 0, none⟩) 1 c) (hc : ∀ j u, cs[j]? = some u → w.cell? ⟨b, j, none⟩ = some u) (h1 : ∀ u, u ∈ cs → u.oneCell' = true) (hlen : l.length ≤ 1000000000000)
    (h : ∀ sa sn sc w', Star w0 w' (oE (sliceE strsE 51) [.slice sa sn sc] (l ++ [y]) :: ps) → wpList Tryz.prog ops Q rest (a.put o.dst (.slice sa sn sc)) w') : wpList Tryz.prog ops Q (o :: rest) a w := by
  obtain ⟨B, fp, hh, d⟩ := S
  obtain ⟨p1, p2, p3⟩ := hh 0 _ rfl
  obtain ⟨q1, q2, q3⟩ := hh 1 _ rfl
  have d01 := d 1 0 (by omega) (by simp) (by simp)
  refine app1_StringSS hgd s x ho hv p1 p2 hx hc h1 q1 q2 d01 hlen (fun v' w' fp' k1 k2 k3 k4 => ?_)
  obtain ⟨sa, sn, sc, rfl⟩ := ow_slice k1
  refine h sa sn sc w' ⟨B.trans (k4.below (fun b hb => (p3 b hb).1) B.size), fun i => match i with | 0 => fp' | i + 1 => fp (i + 2), fun i Q hQ => ?_, fun i j hij hi hj => ?_⟩
  · cases i with
    | zero =>
      obtain rfl : _ = Q := by simpa using hQ
      refine ⟨k1, k2, fun b hm => ⟨?_, Enc.ow_lt _ k1 b hm⟩⟩
      rcases k3 b hm with h1 | h1 | h1
      · exact (p3 b h1).1
      · exact (q3 b h1).1
      · have := B.size; omega
    | succ i =>
      have hQ' : ps[i]? = some Q := by simpa using hQ
      obtain ⟨h1, h2, h3⟩ := hh (i + 2) Q hQ'
      have hil := (List.getElem?_eq_some_iff.1 hQ').1
      refine ⟨Q.frame (fun b hm => k4.block b (h3 b hm).2 (fun hf => ?_)) h1, h2, fun b hm => ⟨(h3 b hm).1, Nat.lt_of_lt_of_le (h3 b hm).2 k4.size⟩⟩
      exact d 0 (i + 2) (by omega) (by simp) (by simpa using hil) b hf hm
  · have hd0 : ∀ i, i < ps.length → Dj fp' (fp (i + 2)) := by
      intro i hi b hb1 hb2
      rcases k3 b hb1 with h1 | h1 | h1
      · exact d 0 (i + 2) (by omega) (by simp) (by simpa using hi) b h1 hb2
      · exact d 1 (i + 2) (by omega) (by simp) (by simpa using hi) b h1 hb2
      · have := ((hh (i + 2) _ (by rw [List.getElem?_cons_succ, List.getElem?_cons_succ]; exact List.getElem?_eq_getElem hi)).2.2 b hb2).2
        omega
    cases i with
    | zero =>
      cases j with
      | zero => exact absurd rfl hij
      | succ j => exact hd0 j (by simpa using hj)
    | succ i =>
      cases j with
      | zero => exact (hd0 i (by simpa using hi)).symm
      | succ j => exact d (i + 2) (j + 2) (by omega) (by simpa using hi) (by simpa using hj)

/-- append of one element, itself a part, to a slice of Move. -/
theorem st1_MoveS {w0 w : World} {ps : List Ob} {ops : Array Oper} {rest : List Oper} {o : Oper} {a : Act} {Q : Exit → Act → World → Prop} {s x : Operand} {v : Value} {l : List (Move)} {b c : Nat} {y : Move} {cs : List Value}
    (S : Star w0 w (oE (sliceE moveE 93) [v] l :: oE moveE cs y :: ps)) (hgd : o.guard = none)
    (ho : o.op = .call { callee := .builtin .append, args := #[s, x], argTypes := #[91, 91] }) (hv : a.eval s = v)
    (hx : a.eval x = .slice (some ⟨b, 0, none⟩) 1 c) (hc : ∀ j u, cs[j]? = some u → w.cell? ⟨b, j, none⟩ = some u) (h1 : ∀ u, u ∈ cs → u.oneCell' = true) (hlen : l.length ≤ 1000000000000)
    (h : ∀ sa sn sc w', Star w0 w' (oE (sliceE moveE 93) [.slice sa sn sc] (l ++ [y]) :: ps) → wpList Tryz.prog ops Q rest (a.put o.dst (.slice sa sn sc)) w') : wpList Tryz.prog ops Q (o :: rest) a w := by
  obtain ⟨B, fp, hh, d⟩ := S
  obtain ⟨p1, p2, p3⟩ := hh 0 _ rfl
  obtain ⟨q1, q2, q3⟩ := hh 1 _ rfl
  have d01 := d 1 0 (by omega) (by simp) (by simp)
  refine app1_MoveS hgd s x ho hv p1 p2 hx hc h1 q1 q2 d01 hlen (fun v' w' fp' k1 k2 k3 k4 => ?_)
  obtain ⟨sa, sn, sc, rfl⟩ := ow_slice k1
  refine h sa sn sc w' ⟨B.trans (k4.below (fun b hb => (p3 b hb).1) B.size), fun i => match i with | 0 => fp' | i + 1 => fp (i + 2), fun i Q hQ => ?_, fun i j hij hi hj => ?_⟩
  · cases i with
    | zero =>
      obtain rfl : _ = Q := by simpa using hQ
      refine ⟨k1, k2, fun b hm => ⟨?_, Enc.ow_lt _ k1 b hm⟩⟩
      rcases k3 b hm with h1 | h1 | h1
      · exact (p3 b h1).1
      · exact (q3 b h1).1
      · have := B.size; omega
    | succ i =>
      have hQ' : ps[i]? = some Q := by simpa using hQ
      obtain ⟨h1, h2, h3⟩ := hh (i + 2) Q hQ'
      have hil := (List.getElem?_eq_some_iff.1 hQ').1
      refine ⟨Q.frame (fun b hm => k4.block b (h3 b hm).2 (fun hf => ?_)) h1, h2, fun b hm => ⟨(h3 b hm).1, Nat.lt_of_lt_of_le (h3 b hm).2 k4.size⟩⟩
      exact d 0 (i + 2) (by omega) (by simp) (by simpa using hil) b hf hm
  · have hd0 : ∀ i, i < ps.length → Dj fp' (fp (i + 2)) := by
      intro i hi b hb1 hb2
      rcases k3 b hb1 with h1 | h1 | h1
      · exact d 0 (i + 2) (by omega) (by simp) (by simpa using hi) b h1 hb2
      · exact d 1 (i + 2) (by omega) (by simp) (by simpa using hi) b h1 hb2
      · have := ((hh (i + 2) _ (by rw [List.getElem?_cons_succ, List.getElem?_cons_succ]; exact List.getElem?_eq_getElem hi)).2.2 b hb2).2
        omega
    cases i with
    | zero =>
      cases j with
      | zero => exact absurd rfl hij
      | succ j => exact hd0 j (by simpa using hj)
    | succ i =>
      cases j with
      | zero => exact (hd0 i (by simpa using hi)).symm
      | succ j => exact d (i + 2) (j + 2) (by omega) (by simpa using hi) (by simpa using hj)

/-- append of several elements that lead nowhere. -/
theorem stS_MoveS {w0 w : World} {ps : List Ob} {ops : Array Oper} {rest : List Oper} {o : Oper} {a : Act} {Q : Exit → Act → World → Prop} {s x : Operand} {v : Value} {l : List (Move)} {ys : List (Move)} {css : List (List Value)} {fys : List (List Nat)}
    (S : Star w0 w (oE (sliceE moveE 93) [v] l :: ps)) (hgd : o.guard = none)
    (ho : o.op = .call { callee := .builtin .append, args := #[s, x], argTypes := #[91, 91] }) (hv : a.eval s = v)
    (hys : OwAll (moveE) w ys css fys) (hfy : fys.flatten = []) (hs : SrcS w (moveE).size (a.eval x) ys.length css.flatten) (hlen : l.length + ys.length ≤ 1000000000000)
    (h : ∀ sa sn sc w', Star w0 w' (oE (sliceE moveE 93) [.slice sa sn sc] (l ++ ys) :: ps) → wpList Tryz.prog ops Q rest (a.put o.dst (.slice sa sn sc)) w') : wpList Tryz.prog ops Q (o :: rest) a w := by
  obtain ⟨B, fp, hh, d⟩ := S
  obtain ⟨p1, p2, p3⟩ := hh 0 _ rfl
  refine appS_MoveS hgd s x ho hv p1 hys hs (by rw [hfy, List.append_nil]; exact p2) hlen (fun v' w' fp' k1 k2 k3 k4 => ?_)
  rw [hfy] at k3
  obtain ⟨sa, sn, sc, rfl⟩ := ow_slice k1
  refine h sa sn sc w' ⟨B.trans (k4.below (fun b hb => (p3 b hb).1) B.size), fun i => match i with | 0 => fp' | i + 1 => fp (i + 1), fun i Q hQ => ?_, fun i j hij hi hj => ?_⟩
  · cases i with
    | zero =>
      obtain rfl : _ = Q := by simpa using hQ
      refine ⟨k1, k2, fun b hm => ⟨?_, Enc.ow_lt _ k1 b hm⟩⟩
      rcases k3 b hm with h1 | h1 | h1
      · exact (p3 b h1).1
      · cases h1
      · have := B.size; omega
    | succ i =>
      have hQ' : ps[i]? = some Q := by simpa using hQ
      obtain ⟨h1, h2, h3⟩ := hh (i + 1) Q hQ'
      have hil := (List.getElem?_eq_some_iff.1 hQ').1
      refine ⟨Q.frame (fun b hm => k4.block b (h3 b hm).2 (fun hf => ?_)) h1, h2, fun b hm => ⟨(h3 b hm).1, Nat.lt_of_lt_of_le (h3 b hm).2 k4.size⟩⟩
      exact d 0 (i + 1) (by omega) (by simp) (by simpa using hil) b hf hm
  · have hd0 : ∀ i, i < ps.length → Dj fp' (fp (i + 1)) := by
      intro i hi b hb1 hb2
      rcases k3 b hb1 with h1 | h1 | h1
      · exact d 0 (i + 1) (by omega) (by simp) (by simpa using hi) b h1 hb2
      · cases h1
      · have := ((hh (i + 1) _ (by rw [List.getElem?_cons_succ]; exact List.getElem?_eq_getElem hi)).2.2 b hb2).2
        omega
    cases i with
    | zero =>
      cases j with
      | zero => exact absurd rfl hij
      | succ j => exact hd0 j (by simpa using hj)
    | succ i =>
      cases j with
      | zero => exact (hd0 i (by simpa using hi)).symm
      | succ j => exact d (i + 1) (j + 1) (by omega) (by simpa using hi) (by simpa using hj)

/-- append of one element, itself a part, to a slice of List Move. -/
theorem st1_MoveSS {w0 w : World} {ps : List Ob} {ops : Array Oper} {rest : List Oper} {o : Oper} {a : Act} {Q : Exit → Act → World → Prop} {s x : Operand} {v : Value} {l : List (List Move)} {b c : Nat} {y : List Move} {cs : List Value}
    (S : Star w0 w (oE (sliceE movesE 91) [v] l :: oE movesE cs y :: ps)) (hgd : o.guard = none)
    (ho : o.op = .call { callee := .builtin .append, args := #[s, x], argTypes := #[34, 34] }) (hv : a.eval s = v)
    (hx : a.eval x = .slice (some ⟨b, 0, none⟩) 1 c) (hc : ∀ j u, cs[j]? = some u → w.cell? ⟨b, j, none⟩ = some u) (h1 : ∀ u, u ∈ cs → u.oneCell' = true) (hlen : l.length ≤ 1000000000000)
    (h : ∀ sa sn sc w', Star w0 w' (oE (sliceE movesE 91) [.slice sa sn sc] (l ++ [y]) :: ps) → wpList Tryz.prog ops Q rest (a.put o.dst (.slice sa sn sc)) w') : wpList Tryz.prog ops Q (o :: rest) a w := by
  obtain ⟨B, fp, hh, d⟩ := S
  obtain ⟨p1, p2, p3⟩ := hh 0 _ rfl
  obtain ⟨q1, q2, q3⟩ := hh 1 _ rfl
  have d01 := d 1 0 (by omega) (by simp) (by simp)
  refine app1_MoveSS hgd s x ho hv p1 p2 hx hc h1 q1 q2 d01 hlen (fun v' w' fp' k1 k2 k3 k4 => ?_)
  obtain ⟨sa, sn, sc, rfl⟩ := ow_slice k1
  refine h sa sn sc w' ⟨B.trans (k4.below (fun b hb => (p3 b hb).1) B.size), fun i => match i with | 0 => fp' | i + 1 => fp (i + 2), fun i Q hQ => ?_, fun i j hij hi hj => ?_⟩
  · cases i with
    | zero =>
      obtain rfl : _ = Q := by simpa using hQ
      refine ⟨k1, k2, fun b hm => ⟨?_, Enc.ow_lt _ k1 b hm⟩⟩
      rcases k3 b hm with h1 | h1 | h1
      · exact (p3 b h1).1
      · exact (q3 b h1).1
      · have := B.size; omega
    | succ i =>
      have hQ' : ps[i]? = some Q := by simpa using hQ
      obtain ⟨h1, h2, h3⟩ := hh (i + 2) Q hQ'
      have hil := (List.getElem?_eq_some_iff.1 hQ').1
      refine ⟨Q.frame (fun b hm => k4.block b (h3 b hm).2 (fun hf => ?_)) h1, h2, fun b hm => ⟨(h3 b hm).1, Nat.lt_of_lt_of_le (h3 b hm).2 k4.size⟩⟩
      exact d 0 (i + 2) (by omega) (by simp) (by simpa using hil) b hf hm
  · have hd0 : ∀ i, i < ps.length → Dj fp' (fp (i + 2)) := by
      intro i hi b hb1 hb2
      rcases k3 b hb1 with h1 | h1 | h1
      · exact d 0 (i + 2) (by omega) (by simp) (by simpa using hi) b h1 hb2
      · exact d 1 (i + 2) (by omega) (by simp) (by simpa using hi) b h1 hb2
      · have := ((hh (i + 2) _ (by rw [List.getElem?_cons_succ, List.getElem?_cons_succ]; exact List.getElem?_eq_getElem hi)).2.2 b hb2).2
        omega
    cases i with
    | zero =>
      cases j with
      | zero => exact absurd rfl hij
      | succ j => exact hd0 j (by simpa using hj)
    | succ i =>
      cases j with
      | zero => exact (hd0 i (by simpa using hi)).symm
      | succ j => exact d (i + 2) (j + 2) (by omega) (by simpa using hi) (by simpa using hj)

end Go.Proofs.YtcifdkliiljmkaaGreatDoor

/-
  Contracts of the laws' own szWriter and toWriter (written by a program of this claim's own, gen_writ.py).
-/
namespace Go.Proofs.YtcifdkliiljmkaaGreatDoor
open Go.RowKit

def okWriter (r : Writer) : Prop := okTurner r.turner ∧ r.out.length ≤ 1048576 ∧ ∀ x, x ∈ r.out → x.length ≤ 1048576
def totWriter (r : Writer) : Nat := totTurner r.turner + (r.out.length + sumF strSz r.out)

theorem rd_WriterF {w : World} {B : Nat} {cs : List Value} {r : Writer} (h : writE.rd w B cs r) :
    ∃ v2 v3, cs = [.int .i64 r.turner.letters, .int .i64 r.turner.start, v2, v3] ∧ (-9223372036854775808 ≤ r.turner.letters ∧ r.turner.letters ≤ 9223372036854775807) ∧ (-9223372036854775808 ≤ r.turner.start ∧ r.turner.start ≤ 9223372036854775807) ∧ movessE.rd w B [v2] r.turner.moves ∧ strssE.rd w B [v3] r.out := by
  obtain ⟨v2, v3, rfl, h2, h3⟩ := rd_Writer h
  obtain ⟨v2', he, b0, b1, k2⟩ := rd_Turner h2
  obtain rfl : v2 = v2' := by simpa using he
  exact ⟨v2, v3, rfl, b0, b1, k2, h3⟩

theorem sumF_mem {α : Type} (f : α → Nat) (l : List α) (x : α) (h : x ∈ l) : f x ≤ sumF f l := by
  induction l with
  | nil => cases h
  | cons a l ih =>
    show f x ≤ f a + sumF f l
    rcases List.mem_cons.1 h with e | e
    · subst e; omega
    · have := ih e; omega

theorem ok_of_totWriter {r : Writer} (h : ¬ 1048576 < totWriter r) : okWriter r := by
  unfold totWriter at h
  refine ⟨ok_of_totTurner (by omega), by omega, fun x hx => ?_⟩
  have := sumF_mem strSz r.out x hx
  have h2 : x.length ≤ strSz x := by unfold strSz; omega
  omega

set_option maxHeartbeats 2000000 in
theorem toWriter_any (cs : List Value) (r : Writer) (B : Nat) (w : World) (hB0 : B ≤ w.heap.size) (h : writE.rd w B cs r) (hok : okWriter r) :
    Calls Tryz.prog 8 #[.agg cs.toArray] w (MakesS writE id r w) := by
  obtain ⟨v2, v3, rfl, h2, h3⟩ := rd_Writer h
  obtain ⟨v2', he, -, -, k2⟩ := rd_Turner h2
  obtain rfl : v2 = v2' := by simpa using he
  obtain ⟨a2, n2, c2, rfl⟩ := rd_slice k2
  obtain ⟨a3, n3, c3, rfl⟩ := rd_slice h3
  have H2 := Lib.hid h2
  have H3 := Lib.hid h3
  have HO := Lib.hid hok
  clear h h2 h3 k2 hok he
  have S := (((Star.nil w).alloc (cs := #[.int .i64 r.turner.letters, .int .i64 r.turner.start, .slice a2 n2 c2, .slice a3 n3 c3]) (ty := 27)).alloc (cs := #[.int .i64 0, .int .i64 0, .slice none 0 0, .slice none 0 0]) (ty := 40)).alloc (cs := #[.int .i64 0, .int .i64 0, .slice none 0 0, .slice none 0 0]) (ty := 40)
  rw [World.size_alloc, World.size_alloc] at S
  go_enter Tryz.func8, Tryz.ntmps8
  go_wp2_with fail
  generalize hW : ((w.alloc _).alloc _).alloc _ = w0 at S ⊢
  clear hW
  replace S : Star w w0 [oB (w.heap.size + 1 + 1) [.int .i64 0, .int .i64 0, .slice none 0 0, .slice none 0 0] 40, oB (w.heap.size + 1) [.int .i64 0, .int .i64 0, .slice none 0 0, .slice none 0 0] 40, oB w.heap.size [.int .i64 r.turner.letters, .int .i64 r.turner.start, .slice a2 n2 c2, .slice a3 n3 c3] 27] := S
  refine (toTurner_any _ r.turner B _ (Nat.le_trans hB0 S.below.size) (turnE.rd_of (S.below.mono hB0) H2.out) HO.out.1).mono ?_
  rintro e w1 ⟨x1, f1, rfl, o1, d1, lo1, b1⟩
  have S1 := S.made o1 d1 lo1 b1
  have o' := turnE.rd_ow o1
  obtain ⟨u2, rfl, -, -, k2⟩ := rd_Turner o'
  obtain ⟨s2, m2, p2, rfl⟩ := rd_slice k2
  clear o' k2 o1 d1 lo1 b1 S
  replace S1 := S1.sel [1, 2, 3, 0]
  have L0 := S1.blk 0 rfl
  have l0 := L0.cell 0 rfl
  have l1 := L0.cell 1 rfl
  have l2 := L0.cell 2 rfl
  have l3 := L0.cell 3 rfl
  have lf := L0.free
  have a3' := (S1.blk 2 rfl).cell 3 rfl
  have la := (S1.blk 2 rfl).lt
  go_wp2_with fail
  generalize hW : ((w1.setCell _ _).setCell _ _).setCell _ _ = w2
  have S2 : Star w w2 [oB (w.heap.size + 1 + 1) [.int .i64 r.turner.letters, .int .i64 r.turner.start, .slice s2 m2 p2, .slice none 0 0] 40, oB (w.heap.size + 1) [.int .i64 0, .int .i64 0, .slice none 0 0, .slice none 0 0] 40, oB w.heap.size [.int .i64 r.turner.letters, .int .i64 r.turner.start, .slice a2 n2 c2, .slice a3 n3 c3] 27, oE turnE [.int .i64 r.turner.letters, .int .i64 r.turner.start, .slice s2 m2 p2] r.turner] := by
    rw [← hW]
    exact ((S1.set 0 _).set 1 _).set 2 _
  clear hW L0 l0 l1 l2 l3 lf a3' la S1
  refine (toStringSS_any _ r.out B _ (Nat.le_trans hB0 S2.below.size) (strssE.rd_of (S2.below.mono hB0) H3.out) HO.out.2.1 HO.out.2.2).mono ?_
  rintro e w3 ⟨x2, f2, rfl, o2, d2, lo2, b2⟩
  obtain ⟨s3, m3, p3, rfl⟩ := ow_slice o2
  have S3 := (S2.made o2 d2 lo2 b2).sel [1, 2, 4, 0]
  clear o2 d2 lo2 b2 S2
  have L0 := S3.blk 0 rfl
  have l0 := L0.cell 0 rfl
  have l1 := L0.cell 1 rfl
  have l2 := L0.cell 2 rfl
  have l3 := L0.cell 3 rfl
  have lf := L0.free
  have R0 := S3.blk 1 rfl
  have r0 := R0.cell 0 rfl
  have r1 := R0.cell 1 rfl
  have r2 := R0.cell 2 rfl
  have r3 := R0.cell 3 rfl
  have rf := R0.free
  go_wp2
  generalize hW : ((((w3.setCell _ _).setCell _ _).setCell _ _).setCell _ _).setCell _ _ = w4
  have S4 : Star w w4 [oB (w.heap.size + 1) [.int .i64 r.turner.letters, .int .i64 r.turner.start, .slice s2 m2 p2, .slice s3 m3 p3] 40, oE turnE [.int .i64 r.turner.letters, .int .i64 r.turner.start, .slice s2 m2 p2] r.turner, oE strssE [.slice s3 m3 p3] r.out] := by
    rw [← hW]
    exact ((((((S3.set 3 _).sel [1, 2, 3]).set 0 _).set 1 _).set 2 _).set 3 _)
  have A3 := S4.blk 0 rfl
  have q0 := A3.cell 0 rfl
  have q1 := A3.cell 1 rfl
  have q2 := A3.cell 2 rfl
  have q3 := A3.cell 3 rfl
  have S5 := (S4.sel [1, 2]).pair.via (F := fun w : Writer => (w.turner, w.out)) r rfl
  obtain ⟨f9, k1, k2, k3⟩ := Star.out (E := writE) S5
  exact bodyPost_ret (v := .agg #[.int .i64 r.turner.letters, .int .i64 r.turner.start, .slice s2 m2 p2, .slice s3 m3 p3]) (by simp [results, Tryz.results8, go_sem, q0, q1, q2, q3]) rfl ⟨_, f9, rfl, k1, k2, k3, S5.below⟩

set_option maxHeartbeats 1000000 in
theorem szWriter_any (cs : List Value) (r : Writer) (B : Nat) (w : World) (left : Int) (hB0 : B ≤ w.heap.size) (h : writE.rd w B cs r) (h0 : 0 ≤ left) (h1 : left ≤ 1048576) :
    Calls Tryz.prog 5 #[.agg cs.toArray, .int .i64 left] w (Gives (.int .i64 (lim (totWriter r) left)) w) := by
  obtain ⟨v2, v3, rfl, h2, h3⟩ := rd_Writer h
  obtain ⟨v2', he, -, -, k2⟩ := rd_Turner h2
  obtain rfl : v2 = v2' := by simpa using he
  obtain ⟨a2, n2, c2, rfl⟩ := rd_slice k2
  obtain ⟨a3, n3, c3, rfl⟩ := rd_slice h3
  have H2 := Lib.hid h2
  have H3 := Lib.hid h3
  have HT : Hid (totWriter r = totTurner r.turner + (r.out.length + sumF strSz r.out)) := Lib.hid rfl
  clear h h2 h3 k2 he
  have S := (Star.nil w).alloc (cs := #[.int .i64 r.turner.letters, .int .i64 r.turner.start, .slice a2 n2 c2, .slice a3 n3 c3]) (ty := 27)
  go_enter Tryz.func5, Tryz.ntmps5
  go_wp2_with fail
  generalize hW : w.alloc _ = w0 at S ⊢
  clear hW
  replace S : Star w w0 [oB w.heap.size [.int .i64 r.turner.letters, .int .i64 r.turner.start, .slice a2 n2 c2, .slice a3 n3 c3] 27] := S
  refine (szTurner_any _ r.turner B _ left (Nat.le_trans hB0 S.below.size) (turnE.rd_of (S.below.mono hB0) H2.out) h0 h1).mono ?_
  rintro e w1 ⟨rfl, b⟩
  replace S := S.step b
  clear b
  obtain ⟨t1, ht1⟩ : ∃ t, t = totTurner r.turner := ⟨_, rfl⟩
  rw [← ht1] at HT ⊢
  obtain ⟨t2, ht2⟩ : ∃ t, t = r.out.length + sumF strSz r.out := ⟨_, rfl⟩
  rw [← ht2] at HT
  have HT2 := Lib.hid ht2
  clear ht1 ht2
  by_cases hx : left < t1
  · rw [lim_of_lt hx]
    have hr := Lib.hid (lim_of_lt (t := totWriter r) (left := left) (by have := HT.out; omega))
    go_wp2
    go_ret
    exact ⟨by rw [hr.out]; rfl, S.below⟩
  rw [lim_of_ge hx]
  obtain ⟨q, hq⟩ : ∃ q : Int, q = left - (t1 : Int) := ⟨_, rfl⟩
  rw [← hq]
  have hn : ¬ q < 0 := by omega
  have g1 : 0 ≤ q := by omega
  have g2 : q ≤ 1048576 := by omega
  have HQ := Lib.hid hq; clear hq
  have a3' := (S.blk 0 rfl).cell 3 rfl
  go_wp2_with fail
  refine (szStringSS_any _ r.out B _ q (Nat.le_trans hB0 S.below.size) (strssE.rd_of (S.below.mono hB0) H3.out) g1 g2).mono ?_
  rintro e w2 ⟨rfl, b⟩
  replace S := S.step b
  rw [← HT2.out]
  clear b a3'
  by_cases hy : q < t2
  · rw [lim_of_lt hy]
    have hr := Lib.hid (lim_of_lt (t := totWriter r) (left := left) (by have := HT.out; have := HQ.out; omega))
    go_wp2
    go_ret
    exact ⟨by rw [hr.out]; rfl, S.below⟩
  rw [lim_of_ge hy]
  have hr := Lib.hid (lim_of_ge (t := totWriter r) (left := left) (by have := HT.out; have := HQ.out; omega))
  have hh : ¬ q - (t2 : Int) < 0 := by omega
  have he := Lib.hid (show q - (t2 : Int) = left - (totWriter r : Int) by have := HT.out; have := HQ.out; omega)
  go_wp2
  go_ret
  exact ⟨by rw [hr.out, ← he.out]; rfl, S.below⟩

end Go.Proofs.YtcifdkliiljmkaaGreatDoor

/-
  ValidWriter of the program: what it answers.
-/
namespace Go.Proofs.YtcifdkliiljmkaaGreatDoor
open Go.RowKit

def orowOk (row : List ByteArray) (n : Nat) : Bool := decide (row.length = n) && row.all outOk
def writerOk (r : Writer) : Bool := validTurn r.turner && (decide (r.out.length = r.turner.moves.length) && (List.range r.turner.moves.length).all fun s => orowOk (r.out[s]?.getD default) (r.turner.moves[s]?.getD default).length)

theorem validTurn_is (b : Bool) (cs : List Value) (p : Turner) (B : Nat) (w : World) (hB0 : B ≤ w.heap.size) (h : turnE.rd w B cs p) (hb : validTurn p = b) :
    Calls Tryz.prog 71 #[.agg cs.toArray] w (Gives (.bool b) w) := hb ▸ validTurn_any cs p B w hB0 h

set_option maxRecDepth 100000 in
theorem containsOut_is (b : Bool) (v : Value) (l : List ByteArray) (B : Nat) (w : World) (hB0 : B ≤ w.heap.size) (h : strsE.rd w B [v] l) (hb : (l.any fun t => !outOk t) = b) :
    Calls Tryz.prog 52 #[v, .func (.func 78) #[] #[]] w (Gives (.bool b) w) := by
  subst hb
  refine containsFunc_strs v l B w _ #[] #[] _ hB0 h ?_ ?_
  · intro args w1
    rfl
  · intro vk z w1 _ hz
    obtain ⟨hv, hs⟩ := hz
    obtain rfl : vk = .string z := by simpa using hv
    exact notOut_any z w1 hs

theorem any_out (l : List ByteArray) : (l.any fun t => !outOk t) = !l.all outOk := by
  induction l with
  | nil => rfl
  | cons a l ih => rw [List.any_cons, List.all_cons, ih]; cases outOk a <;> rfl

set_option maxHeartbeats 2000000 in
theorem validWriter_any (cs : List Value) (r : Writer) (B : Nat) (w : World) (hB0 : B ≤ w.heap.size) (h : writE.rd w B cs r) :
    Calls Tryz.prog 51 #[.agg cs.toArray] w (Gives (.bool (writerOk r)) w) := by
  obtain ⟨v2, v3, rfl, h2, h3⟩ := rd_Writer h
  obtain ⟨v2', he, -, -, k2⟩ := rd_Turner h2
  obtain rfl : v2 = v2' := by simpa using he
  obtain ⟨a, cap, rfl, a1, a2, -, a4⟩ := rd_slice1 rfl k2
  obtain ⟨b, bcap, rfl, b1, b2, -, b4⟩ := rd_slice1 rfl h3
  have H2 := Lib.hid h2
  clear h he k2 h3 h2
  have A4 := Lib.hid a4; clear a4
  have B4 := Lib.hid b4; clear b4
  cases hv : validTurn r.turner
  · have HV := Lib.hid hv; clear hv
    have hno : writerOk r = false := by unfold writerOk; rw [HV.out]; rfl
    rw [hno]
    go_enter Tryz.func51, Tryz.ntmps51
    go_wp2_with fail
    generalize hW : w.alloc _ = w0
    obtain ⟨A0, hB⟩ := blk1 hW
    clear hW
    refine (validTurn_is false _ r.turner B _ (Nat.le_trans hB0 hB.size) (turnE.rd_of (hB.mono hB0) H2.out) HV.out).mono ?_
    rintro e w1 ⟨rfl, b9⟩
    go_wp2
    go_ret
    exact ⟨rfl, hB.trans (b9.mono hB.size)⟩
  have HV := Lib.hid hv; clear hv
  obtain ⟨n, hn⟩ : ∃ n, n = r.turner.moves.length := ⟨_, rfl⟩
  obtain ⟨m, hm⟩ : ∃ n, n = r.out.length := ⟨_, rfl⟩
  rw [← hn] at A4 H2 a1 ⊢
  rw [← hm] at B4 b1 ⊢
  have HN := Lib.hid hn; clear hn
  have HM := Lib.hid hm; clear hm
  have HR : Hid (writerOk r = (decide (m = n) && (List.range n).all fun s => orowOk (r.out[s]?.getD default) (r.turner.moves[s]?.getD default).length)) := Lib.hid (by unfold writerOk; rw [HV.out, HN.out, HM.out]; rfl)
  obtain ⟨res, hres⟩ : ∃ x, x = writerOk r := ⟨_, rfl⟩
  rw [← hres]
  have HRES := Lib.hid (hres.trans HR.out); clear hres HR
  by_cases hmn : m = n
  case neg =>
    have hno : res = false := by rw [HRES.out, decide_eq_false hmn]; rfl
    have hb1 : ((m : Int) != (n : Int)) = true := by simp; omega
    rw [hno]
    go_enter Tryz.func51, Tryz.ntmps51
    go_wp2_with fail
    generalize hW : w.alloc _ = w0
    obtain ⟨A0, hB⟩ := blk1 hW
    clear hW
    refine (validTurn_is true _ r.turner B _ (Nat.le_trans hB0 hB.size) (turnE.rd_of (hB.mono hB0) H2.out) HV.out).mono ?_
    rintro e w1 ⟨rfl, b9⟩
    have A0 := A0.of b9 A0.lt
    have c2 := A0.cell 2 rfl
    have c3 := A0.cell 3 rfl
    go_wp2
    go_ret
    exact ⟨rfl, hB.trans (b9.mono hB.size)⟩
  subst hmn
  have hres : Hid (res = (List.range m).all fun s => orowOk (r.out[s]?.getD default) (r.turner.moves[s]?.getD default).length) := Lib.hid (by rw [HRES.out, decide_eq_true rfl, Bool.true_and])
  clear HRES
  have hb1 : ((m : Int) != (m : Int)) = false := by simp
  go_enter Tryz.func51, Tryz.ntmps51
  go_wp2_with fail
  generalize hW : w.alloc _ = w0
  obtain ⟨A0, hB⟩ := blk1 hW
  clear hW
  refine (validTurn_is true _ r.turner B _ (Nat.le_trans hB0 hB.size) (turnE.rd_of (hB.mono hB0) H2.out) HV.out).mono ?_
  rintro e w1 ⟨rfl, b9⟩
  have HB := Lib.hid (hB.trans (b9.mono hB.size))
  have HA := Lib.hid (A0.of b9 A0.lt)
  clear A0 b9 hB
  have c2 := HA.out.cell 2 rfl
  have c3 := HA.out.cell 3 rfl
  go_wp2
  clear c2 c3
  go_loopw [22] (fun i wr => ∃ k : Nat, k ≤ m ∧ i = .int .i64 k ∧ Below w.heap.size w wr ∧ Blk wr w.heap.size [.int .i64 r.turner.letters, .int .i64 r.turner.start, .slice a m cap, .slice b m bcap] 40 ∧ Hid (∀ i, i < k → orowOk (r.out[i]?.getD default) (r.turner.moves[i]?.getD default).length = true)) (fun i _ => m - (intOf i).toNat)
  case atStart => exact ⟨0, by omega, rfl, HB.out, HA.out, Lib.hid (fun i hi => absurd hi (by omega))⟩
  case round =>
    obtain ⟨k, hk, rfl, hB, hA, HE⟩ := hrel
    by_cases hlt : k < m
    case neg =>
      obtain rfl : k = m := by omega
      have hyes : res = true := by rw [hres.out]; exact range_all (fun i hi => HE.out i hi)
      go_wp2
      go_ret
      exact ⟨by rw [hyes]; rfl, hB⟩
    obtain ⟨p, o, vk, rfl, -, hc, hr⟩ := A4.out k hlt
    obtain ⟨p2, o2, vk2, rfl, -, hc2, hr2⟩ := B4.out k hlt
    have g1 := (hB.cell (World.block_lt_of_cell? w _ hc)).trans hc
    have g2 := (hB.cell (World.block_lt_of_cell? w _ hc2)).trans hc2
    have R2 := Lib.hid (strsE.rd_of (hB.mono hB0) hr2)
    obtain ⟨sa, sc, rfl, s1, s2, -, -⟩ := rd_movesE hr
    obtain ⟨ta, tc, rfl, t1, t2, -, -⟩ := rd_strs hr2
    clear hc hc2 hr hr2
    obtain ⟨x, hx⟩ : ∃ x, x = (r.turner.moves[k]?.getD default).length := ⟨_, rfl⟩
    obtain ⟨row, hrow⟩ : ∃ x, x = r.out[k]?.getD default := ⟨_, rfl⟩
    rw [← hx] at g1 s1
    rw [← hrow] at R2 g2 t1
    have HX := Lib.hid hx; clear hx
    have HROW := Lib.hid hrow; clear hrow
    have c2 := hA.cell 2 rfl
    have HA' := Lib.hid hA; have la := hA.lt; clear hA
    have HBr := Lib.hid hB; clear hB
    obtain ⟨y, hy⟩ : ∃ x, x = row.length := ⟨_, rfl⟩
    rw [← hy] at R2 g2 t1
    have HY := Lib.hid hy; clear hy
    by_cases hlen : y = x
    case neg =>
      have hb2 : ((y : Int) != (x : Int)) = true := by simp; omega
      have hno : Hid (res = false) := Lib.hid (by rw [hres.out]; exact range_not hlt (by unfold orowOk; rw [← HROW.out, ← HX.out, decide_eq_false (by rw [← HY.out]; exact hlen)]; rfl))
      clear hlen
      go_wp2
      go_ret
      exact ⟨by rw [hno.out]; rfl, HBr.out⟩
    subst hlen
    have hb2 : ((y : Int) != (y : Int)) = false := by simp
    cases hok : row.all outOk
    · have HOK : Hid ((row.any fun t => !outOk t) = true) := Lib.hid (by rw [any_out, hok]; rfl)
      have hno : Hid (res = false) := Lib.hid (by rw [hres.out]; exact range_not hlt (by unfold orowOk; rw [← HROW.out, hok, Bool.and_false]))
      clear hok
      go_wp2_with fail
      refine (containsOut_is true _ row B _ (Nat.le_trans hB0 HBr.out.size) R2.out HOK.out).mono ?_
      rintro e w5 ⟨rfl, b5⟩
      go_wp2
      go_ret
      exact ⟨by rw [hno.out]; rfl, HBr.out.trans (b5.mono HBr.out.size)⟩
    · have HOK : Hid ((row.any fun t => !outOk t) = false) := Lib.hid (by rw [any_out, hok]; rfl)
      have hyes : Hid (orowOk (r.out[k]?.getD default) (r.turner.moves[k]?.getD default).length = true) := Lib.hid (by unfold orowOk; rw [← HROW.out, ← HX.out, hok, decide_eq_true HY.out.symm]; rfl)
      clear hok
      go_wp2_with fail
      refine (containsOut_is false _ row B _ (Nat.le_trans hB0 HBr.out.size) R2.out HOK.out).mono ?_
      rintro e w5 ⟨rfl, b5⟩
      go_wp2
      go_roundw
      case rel => exact ⟨k + 1, by omega, by go_num, HBr.out.trans (b5.mono HBr.out.size), HA'.out.of b5 la, Lib.hid (fun i hi => by by_cases h : i = k; (subst h; exact hyes.out); exact HE.out i (by omega))⟩
      case measure => simp [intOf]; omega

end Go.Proofs.YtcifdkliiljmkaaGreatDoor

/-
  ValidTurner of the specification: what it answers.
-/
namespace Go.Proofs.YtcifdkliiljmkaaGreatDoor
open Go.RowKit

/-- What lies at a block's first cells. -/
structure Hd (w : World) (g : Nat) (cs : List Value) : Prop where
  lt : g < w.heap.size
  cell : ∀ (i : Nat) {v : Value}, cs[i]? = some v → w.cell? ⟨g, i, none⟩ = some v
theorem Hd.of {w w' : World} {g B : Nat} {cs : List Value} (h : Hd w g cs) (hb : Below B w w') (hB : g < B) : Hd w' g cs :=
  ⟨Nat.lt_of_lt_of_le h.lt hb.size, fun i v hv => by rw [hb.cell (p := ⟨g, i, none⟩) hB]; exact h.cell i hv⟩
theorem Hd.left {w : World} {g : Nat} {c1 c2 : List Value} (h : Hd w g (c1 ++ c2)) : Hd w g c1 :=
  ⟨h.lt, fun i v hv => h.cell i (by rw [List.getElem?_append_left (List.getElem?_eq_some_iff.1 hv).1]; exact hv)⟩
theorem Blk.hd {w : World} {g : Nat} {cs : List Value} {ty : TypeId} (h : Blk w g cs ty) : Hd w g cs := ⟨h.lt, fun i _ hv => h.cell i hv⟩

section
variable (v2 : Value) (p : Turner) (B g : Nat) (w : World) (hA0 : Hd w g [.int .i64 p.letters, .int .i64 p.start, v2]) (hh2 : movessE.rd w B [v2] p.moves)
include hA0 hh2

set_option maxHeartbeats 1000000 in
theorem l02Ok_no1 (h1 : within p.letters 1 3 = false) : Calls Tryz.prog 64 #[.pointer (some ⟨g, 0, none⟩)] w (Gives (.bool false) w) := by
  obtain ⟨a, cap, rfl, a1, a2, -, a4⟩ := rd_slice1 rfl hh2
  obtain ⟨n, hn⟩ : ∃ n, n = p.moves.length := ⟨_, rfl⟩
  have HN : Hid (n = p.moves.length) := Lib.hid hn
  rw [← hn] at hA0 hh2 a1 a4
  try rw [← hn]
  have T1 := Lib.hid h1
  have HA := Lib.hid hA0
  have c0 := hA0.cell 0 rfl
  have c1 := hA0.cell 1 rfl
  have c2 := hA0.cell 2 rfl
  have A4 := Lib.hid a4
  clear hh2 hn a4 hA0 h1
  go_enter Tryz.func64, Tryz.ntmps64
  go_wp2_with fail
  refine (l00In_is false _ _ _ _ T1.out).mono ?_
  rintro e w1 ⟨rfl, rfl⟩
  go_wp2
  go_ret
  exact ⟨rfl, Below.refl _ _⟩

set_option maxHeartbeats 1000000 in
theorem l02Ok_no2 (h1 : within p.letters 1 3 = true) (h2 : within p.moves.length 1 12 = false) : Calls Tryz.prog 64 #[.pointer (some ⟨g, 0, none⟩)] w (Gives (.bool false) w) := by
  obtain ⟨a, cap, rfl, a1, a2, -, a4⟩ := rd_slice1 rfl hh2
  obtain ⟨n, hn⟩ : ∃ n, n = p.moves.length := ⟨_, rfl⟩
  have HN : Hid (n = p.moves.length) := Lib.hid hn
  rw [← hn] at hA0 hh2 a1 a4 h2
  try rw [← hn]
  have T1 := Lib.hid h1
  have T2 := Lib.hid h2
  have HA := Lib.hid hA0
  have c0 := hA0.cell 0 rfl
  have c1 := hA0.cell 1 rfl
  have c2 := hA0.cell 2 rfl
  have A4 := Lib.hid a4
  clear hh2 hn a4 hA0 h1 h2
  go_enter Tryz.func64, Tryz.ntmps64
  go_wp2_with fail
  refine (l00In_is true _ _ _ _ T1.out).mono ?_
  rintro e w1 ⟨rfl, rfl⟩
  go_wp2_with fail
  refine (l00In_is false _ _ _ _ T2.out).mono ?_
  rintro e w3 ⟨rfl, rfl⟩
  go_wp2
  go_ret
  exact ⟨rfl, Below.refl _ _⟩

set_option maxHeartbeats 1000000 in
theorem l02Ok_no3 (h1 : within p.letters 1 3 = true) (h2 : within p.moves.length 1 12 = true) (h3 : within p.start 0 (p.moves.length - 1) = false) : Calls Tryz.prog 64 #[.pointer (some ⟨g, 0, none⟩)] w (Gives (.bool false) w) := by
  obtain ⟨a, cap, rfl, a1, a2, -, a4⟩ := rd_slice1 rfl hh2
  obtain ⟨n, hn⟩ : ∃ n, n = p.moves.length := ⟨_, rfl⟩
  have HN : Hid (n = p.moves.length) := Lib.hid hn
  rw [← hn] at hA0 hh2 a1 a4 h2 h3
  try rw [← hn]
  have T1 := Lib.hid h1
  have hn1 := within_true.1 h2
  have T2 := Lib.hid h2
  have T3 := Lib.hid h3
  have hw : IntKind.i64.wrap ((n : Int) - 1) = (n : Int) - 1 := IntWalk.i64_in _ ⟨by omega, by omega⟩
  have hl1 := within_true.1 h1
  have HA := Lib.hid hA0
  have c0 := hA0.cell 0 rfl
  have c1 := hA0.cell 1 rfl
  have c2 := hA0.cell 2 rfl
  have A4 := Lib.hid a4
  clear hh2 hn a4 hA0 h1 h2 h3
  go_enter Tryz.func64, Tryz.ntmps64
  go_wp2_with fail
  refine (l00In_is true _ _ _ _ T1.out).mono ?_
  rintro e w1 ⟨rfl, rfl⟩
  go_wp2_with fail
  refine (l00In_is true _ _ _ _ T2.out).mono ?_
  rintro e w3 ⟨rfl, rfl⟩
  go_wp2_with fail
  refine (l00In_is false _ _ _ _ T3.out).mono ?_
  rintro e w4 ⟨rfl, rfl⟩
  go_wp2
  go_ret
  exact ⟨rfl, Below.refl _ _⟩

set_option maxHeartbeats 1000000 in
theorem l02Ok_yes (h1 : within p.letters 1 3 = true) (h2 : within p.moves.length 1 12 = true) (h3 : within p.start 0 (p.moves.length - 1) = true) : Calls Tryz.prog 64 #[.pointer (some ⟨g, 0, none⟩)] w (Gives (.bool (p.moves.all fun row => mrowOk row p.moves.length p.letters)) w) := by
  obtain ⟨a, cap, rfl, a1, a2, -, a4⟩ := rd_slice1 rfl hh2
  obtain ⟨n, hn⟩ : ∃ n, n = p.moves.length := ⟨_, rfl⟩
  have HN : Hid (n = p.moves.length) := Lib.hid hn
  rw [← hn] at hA0 hh2 a1 a4 h2 h3
  try rw [← hn]
  have T1 := Lib.hid h1
  have hn1 := within_true.1 h2
  have T2 := Lib.hid h2
  have T3 := Lib.hid h3
  have hw : IntKind.i64.wrap ((n : Int) - 1) = (n : Int) - 1 := IntWalk.i64_in _ ⟨by omega, by omega⟩
  have hl1 := within_true.1 h1
  have HA := Lib.hid hA0
  have c0 := hA0.cell 0 rfl
  have c1 := hA0.cell 1 rfl
  have c2 := hA0.cell 2 rfl
  have A4 := Lib.hid a4
  clear hh2 hn a4 hA0 h1 h2 h3
  go_enter Tryz.func64, Tryz.ntmps64
  go_wp2_with fail
  refine (l00In_is true _ _ _ _ T1.out).mono ?_
  rintro e w1 ⟨rfl, rfl⟩
  go_wp2_with fail
  refine (l00In_is true _ _ _ _ T2.out).mono ?_
  rintro e w3 ⟨rfl, rfl⟩
  go_wp2_with fail
  refine (l00In_is true _ _ _ _ T3.out).mono ?_
  rintro e w4 ⟨rfl, rfl⟩
  go_wp2
  clear c0 c1 c2
  have hwl1 : IntKind.i64.wrap (p.letters + 2) = p.letters + 2 := IntWalk.i64_in _ ⟨by omega, by omega⟩
  go_loopw [4] (fun i wr => ∃ k : Nat, k ≤ n ∧ i = .int .i64 k ∧ Below w.heap.size w wr ∧ Hid (∀ i, i < k → mrowOk (p.moves[i]?.getD default) n p.letters = true)) (fun i _ => n - (intOf i).toNat)
  case atStart => exact ⟨0, by omega, rfl, Below.refl _ _, Lib.hid (fun i hi => absurd hi (by omega))⟩
  case round =>
    obtain ⟨k, hk, rfl, hB, HE⟩ := hrel
    have hA0 := HA.out.of hB HA.out.lt
    have c2z := hA0.cell 2 rfl
    clear hA0
    by_cases hlt : k < n
    case neg =>
      obtain rfl : k = n := by omega
      go_wp2
      go_ret
      have : (p.moves.all fun row => mrowOk row (k : Int) p.letters) = true := all_of_idx default _ _ (fun i hi => HE.out i (by rw [HN.out]; exact hi))
      exact ⟨by rw [this]; rfl, hB⟩
    obtain ⟨b, o, vk, rfl, -, hc, hr⟩ := A4.out k hlt
    have g1 := (hB.cell (World.block_lt_of_cell? w _ hc)).trans hc
    have HG := Lib.hid hc
    have R0 := Lib.hid hr; clear hr hc
    obtain ⟨row, hrow⟩ : ∃ x, x = p.moves[k]?.getD default := ⟨_, rfl⟩
    rw [← hrow] at R0
    have HROW := Lib.hid hrow; clear hrow
    obtain ⟨ra, rcap, rfl, r1, r2, -, r4⟩ := rd_movesE R0.out
    clear R0
    have R4 := Lib.hid r4; clear r4
    have hA := HA.out.of hB HA.out.lt
    have c0 := hA.cell 0 rfl
    have c2 := hA.cell 2 rfl
    have lA := hA.lt
    clear hA
    have HBr := Lib.hid hB; clear hB
    by_cases hlen : (row.length : Int) = p.letters + 2
    case neg =>
      have hb : ((row.length : Int) != p.letters + 2) = true := by simpa using hlen
      have hno := Lib.hid (show mrowOk row n p.letters = false by unfold mrowOk; rw [decide_eq_false hlen]; rfl)
      clear hlen
      go_wp2
      go_quiet (fail)
      go_wp2
      go_ret
      have : (p.moves.all fun row => mrowOk row (n : Int) p.letters) = false := all_not_idx default _ _ k (by rw [← HN.out]; exact hlt) (by rw [← HROW.out]; exact hno.out)
      exact ⟨by rw [this]; rfl, below_drewN HBr.out _⟩
    have hb : ((row.length : Int) != p.letters + 2) = false := by simpa using hlen
    have Hlen := Lib.hid hlen
    have hrl : row.length ≤ 5 := by omega
    have hrl' : 2 ≤ row.length := by omega
    go_wp2
    go_quiet (fail)
    go_wp2
    clear c0 c2 lA hb g1
    obtain ⟨m, hm⟩ : ∃ m, m = row.length := ⟨_, rfl⟩
    rw [← hm] at hrl hrl' R4 hlen HG r1 ⊢
    have HM := Lib.hid hm; clear hm
    go_loopw [5] (fun i wr => ∃ c : Nat, c ≤ m ∧ i = .int .i64 c ∧ Below w.heap.size w wr ∧ Hid (∀ i, i < c → moveOk (row[i]?.getD default) n p.letters (i : Int) = true)) (fun i _ => m - (intOf i).toNat)
    case atStart => exact ⟨0, by omega, rfl, below_drewN HBr.out _, Lib.hid (fun i hi => absurd hi (by omega))⟩
    case round =>
      obtain ⟨c, hc, rfl, hB, HC⟩ := hrel
      have hA := HA.out.of hB HA.out.lt
      have c0 := hA.cell 0 rfl
      have c2 := hA.cell 2 rfl
      have lA := hA.lt
      clear hA
      by_cases hcm : c < m
      case neg =>
        obtain rfl : c = m := by omega
        have hyes : Hid (mrowOk row n p.letters = true) := Lib.hid (by unfold mrowOk; rw [decide_eq_true Hlen.out, Bool.true_and]; exact range_all (fun i hi => HC.out i (by rw [HM.out]; exact hi)))
        have hcl : ¬ ((c : Int) < p.letters + 2) := by omega
        clear hlen
        go_wp2
        go_roundw
        case rel => exact ⟨k + 1, by omega, by go_num, hB, Lib.hid (fun i hi => by by_cases h : i = k; (subst h; rw [← HROW.out]; exact hyes.out); exact HE.out i (by omega))⟩
        case measure => simp [intOf]; omega
      have hcl : ((c : Int) < p.letters + 2) := by omega
      have Hlen2 := Lib.hid hlen; clear hlen
      obtain ⟨s, t, rfl, -, ⟨hp0, hp1⟩, -⟩ := R4.out c hcm
      have q0 := (hB.cell (World.block_lt_of_cell? w _ hp0)).trans hp0
      have q1 := (hB.cell (World.block_lt_of_cell? w _ hp1)).trans hp1
      have g1 := (hB.cell (World.block_lt_of_cell? w _ HG.out)).trans HG.out
      clear hp0 hp1
      have HB5 := Lib.hid hB; clear hB
      generalize hmv : row[c]?.getD default = mv at *
      have HMV := Lib.hid hmv; clear hmv
      have hov := cell_over wr
      have l1 : b < wr.heap.size := World.block_lt_of_cell? wr _ g1
      have l2 : s < wr.heap.size := World.block_lt_of_cell? wr _ q0
      cases hok : moveOk mv n p.letters (c : Int)
      case false =>
        have HOK := Lib.hid hok; clear hok
        go_wp2
        refine wp_region_over (by kernel_rfl) (by kernel_rfl) ?_
        repeat (go_big_quiet_step ((go_at_call 88; exact calls_over (l02Move_is false mv _ _ _ _ ⟨by omega, by omega⟩ ⟨by omega, by omega⟩ HOK.out))))
        refine wpQuiet_nil ?_
        intro w5 hw5
        have HB6 := Lib.hid (HB5.out.trans (hw5.mono HB5.out.size))
        clear hw5
        have hno : Hid (mrowOk row n p.letters = false) := Lib.hid (by unfold mrowOk; rw [decide_eq_true Hlen.out, Bool.true_and]; exact range_not (by rw [← HM.out]; exact hcm) (by rw [HMV.out]; exact HOK.out))
        go_wp2
        go_ret
        have : (p.moves.all fun row => mrowOk row (n : Int) p.letters) = false := all_not_idx default _ _ k (by rw [← HN.out]; exact hlt) (by rw [← HROW.out]; exact hno.out)
        exact ⟨by rw [this]; rfl, HB6.out⟩
      have HOK := Lib.hid hok; clear hok
      go_wp2
      refine wp_region_over (by kernel_rfl) (by kernel_rfl) ?_
      repeat (go_big_quiet_step ((go_at_call 88; exact calls_over (l02Move_is true mv _ _ _ _ ⟨by omega, by omega⟩ ⟨by omega, by omega⟩ HOK.out))))
      refine wpQuiet_nil ?_
      intro w5 hw5
      have HB6 := Lib.hid (HB5.out.trans (hw5.mono HB5.out.size))
      clear hw5
      go_wp2
      go_roundw
      case rel => exact ⟨c + 1, by omega, by go_num, HB6.out, Lib.hid (fun i hi => by by_cases h : i = c; (subst h; rw [HMV.out]; exact HOK.out); exact HC.out i (by omega))⟩
      case measure => simp [intOf]; omega

end

theorem l02Ok_any (v2 : Value) (p : Turner) (B g : Nat) (w : World) (hA0 : Hd w g [.int .i64 p.letters, .int .i64 p.start, v2]) (hh2 : movessE.rd w B [v2] p.moves) :
    Calls Tryz.prog 64 #[.pointer (some ⟨g, 0, none⟩)] w (Gives (.bool (validTurn p)) w) := by
  unfold validTurn
  cases h1 : within p.letters 1 3 with
  | false => rw [Bool.false_and]; exact l02Ok_no1 v2 p B g w hA0 hh2 h1
  | true =>
    rw [Bool.true_and]
    cases h2 : within p.moves.length 1 12 with
    | false => rw [Bool.false_and]; exact l02Ok_no2 v2 p B g w hA0 hh2 h1 h2
    | true =>
      rw [Bool.true_and]
      cases h3 : within p.start 0 (p.moves.length - 1) with
      | false => rw [Bool.false_and]; exact l02Ok_no3 v2 p B g w hA0 hh2 h1 h2 h3
      | true => rw [Bool.true_and]; exact l02Ok_yes v2 p B g w hA0 hh2 h1 h2 h3

end Go.Proofs.YtcifdkliiljmkaaGreatDoor

/-
  ValidWriter of the reference: what it answers.
-/
namespace Go.Proofs.YtcifdkliiljmkaaGreatDoor
open Go.RowKit

theorem l02Ok_is (b : Bool) (v2 : Value) (p : Turner) (B g : Nat) (w : World) (hA0 : Hd w g [.int .i64 p.letters, .int .i64 p.start, v2]) (hh2 : movessE.rd w B [v2] p.moves) (hb : validTurn p = b) :
    Calls Tryz.prog 64 #[.pointer (some ⟨g, 0, none⟩)] w (Gives (.bool b) w) := hb ▸ l02Ok_any v2 p B g w hA0 hh2

set_option maxHeartbeats 2000000 in
theorem l07Ok_any (v2 v3 : Value) (r : Writer) (B g : Nat) (w : World) (hB0 : B ≤ w.heap.size) (hA0 : Blk w g [.int .i64 r.turner.letters, .int .i64 r.turner.start, v2, v3] 40)
    (k2 : movessE.rd w B [v2] r.turner.moves) (h3 : strssE.rd w B [v3] r.out) :
    Calls Tryz.prog 46 #[.pointer (some ⟨g, 0, none⟩)] w (Gives (.bool (writerOk r)) w) := by
  obtain ⟨a, cap, rfl, a1, a2, -, a4⟩ := rd_slice1 rfl k2
  obtain ⟨b, bcap, rfl, b1, b2, -, b4⟩ := rd_slice1 rfl h3
  have H2 := Lib.hid k2
  clear k2 h3
  have A4 := Lib.hid a4; clear a4
  have B4 := Lib.hid b4; clear b4
  have hov := cell_over w
  have hg := hA0.lt
  cases hv : validTurn r.turner
  · have HV := Lib.hid hv; clear hv
    have hno : writerOk r = false := by unfold writerOk; rw [HV.out]; rfl
    rw [hno]
    have HD := Lib.hid (Hd.left (c1 := [.int .i64 r.turner.letters, .int .i64 r.turner.start, .slice a r.turner.moves.length cap]) (c2 := [.slice b r.out.length bcap]) hA0.hd)
    clear hA0
    go_enter Tryz.func46, Tryz.ntmps46
    go_wp2
    refine wp_region_over (by kernel_rfl) (by kernel_rfl) ?_
    repeat (go_big_quiet_step ((go_at_call 64; exact calls_over (l02Ok_is false _ r.turner B g _ (HD.out.of (below_over w _) hg) (movessE.rd_of ((below_over w _).mono hB0) H2.out) HV.out))))
    refine wpQuiet_nil ?_
    intro w1 hw1
    go_wp2
    go_ret
    exact ⟨rfl, hw1⟩
  have HV := Lib.hid hv; clear hv
  obtain ⟨n, hn⟩ : ∃ n, n = r.turner.moves.length := ⟨_, rfl⟩
  obtain ⟨m, hm⟩ : ∃ n, n = r.out.length := ⟨_, rfl⟩
  rw [← hn] at A4 H2 a1 hA0
  rw [← hm] at B4 b1 hA0
  have HN := Lib.hid hn; clear hn
  have HM := Lib.hid hm; clear hm
  have HR : Hid (writerOk r = (decide (m = n) && (List.range n).all fun s => orowOk (r.out[s]?.getD default) (r.turner.moves[s]?.getD default).length)) := Lib.hid (by unfold writerOk; rw [HV.out, HN.out, HM.out]; rfl)
  obtain ⟨res, hres⟩ : ∃ x, x = writerOk r := ⟨_, rfl⟩
  rw [← hres]
  have HRES := Lib.hid (hres.trans HR.out); clear hres HR
  have HD := Lib.hid (Hd.left (c1 := [.int .i64 r.turner.letters, .int .i64 r.turner.start, .slice a n cap]) (c2 := [.slice b m bcap]) hA0.hd)
  have c2 := hA0.cell 2 rfl
  have c3 := hA0.cell 3 rfl
  by_cases hmn : m = n
  case neg =>
    have hno : res = false := by rw [HRES.out, decide_eq_false hmn]; rfl
    have hb1 : ((m : Int) != (n : Int)) = true := by simp; omega
    rw [hno]
    clear hA0 hmn
    go_enter Tryz.func46, Tryz.ntmps46
    go_wp2
    refine wp_region_over (by kernel_rfl) (by kernel_rfl) ?_
    repeat (go_big_quiet_step ((go_at_call 64; exact calls_over (l02Ok_is true _ r.turner B g _ (HD.out.of (below_over w _) hg) (movessE.rd_of ((below_over w _).mono hB0) H2.out) HV.out))))
    refine wpQuiet_nil ?_
    intro w1 hw1
    go_wp2
    go_ret
    exact ⟨rfl, hw1⟩
  subst hmn
  have hres : Hid (res = (List.range m).all fun s => orowOk (r.out[s]?.getD default) (r.turner.moves[s]?.getD default).length) := Lib.hid (by rw [HRES.out, decide_eq_true rfl, Bool.true_and])
  clear HRES
  have hb1 : ((m : Int) != (m : Int)) = false := by simp
  have HA0 := Lib.hid hA0; clear hA0
  go_enter Tryz.func46, Tryz.ntmps46
  go_wp2
  refine wp_region_over (by kernel_rfl) (by kernel_rfl) ?_
  repeat (go_big_quiet_step ((go_at_call 64; exact calls_over (l02Ok_is true _ r.turner B g _ (HD.out.of (below_over w _) hg) (movessE.rd_of ((below_over w _).mono hB0) H2.out) HV.out))))
  refine wpQuiet_nil ?_
  intro w1 hw1
  go_wp2
  have hA := HA0.out.of hw1 hg
  clear hov c2 c3 HD
  go_loopw [3] (fun i wr => ∃ k : Nat, k ≤ m ∧ i = .int .i64 k ∧ Below w.heap.size w wr ∧ Blk wr g [.int .i64 r.turner.letters, .int .i64 r.turner.start, .slice a m cap, .slice b m bcap] 40 ∧ Hid (∀ i, i < k → orowOk (r.out[i]?.getD default) (r.turner.moves[i]?.getD default).length = true)) (fun i _ => m - (intOf i).toNat)
  case atStart => exact ⟨0, by omega, rfl, hw1, hA, Lib.hid (fun i hi => absurd hi (by omega))⟩
  case round =>
    clear hA hw1
    obtain ⟨k, hk, rfl, hB, hA, HE⟩ := hrel
    have c2 := hA.cell 2 rfl
    have c3 := hA.cell 3 rfl
    by_cases hlt : k < m
    case neg =>
      obtain rfl : k = m := by omega
      have hyes : res = true := by rw [hres.out]; exact range_all (fun i hi => HE.out i hi)
      go_wp2
      go_ret
      exact ⟨by rw [hyes]; rfl, hB⟩
    obtain ⟨p, o, vk, rfl, -, hc, hr⟩ := A4.out k hlt
    obtain ⟨p2, o2, vk2, rfl, -, hc2, hr2⟩ := B4.out k hlt
    have l1 := World.block_lt_of_cell? w _ hc
    have l2 := World.block_lt_of_cell? w _ hc2
    have g1 := (hB.cell l1).trans hc
    have g2 := (hB.cell l2).trans hc2
    obtain ⟨sa, sc, rfl, s1, s2, -, -⟩ := rd_movesE hr
    obtain ⟨ta, tc, rfl, t1, t2, -, t4⟩ := rd_strs hr2
    have HC2 := Lib.hid hc2
    clear hc hc2 hr hr2
    obtain ⟨x, hx⟩ : ∃ x, x = (r.turner.moves[k]?.getD default).length := ⟨_, rfl⟩
    obtain ⟨row, hrow⟩ : ∃ x, x = r.out[k]?.getD default := ⟨_, rfl⟩
    rw [← hx] at g1 s1
    rw [← hrow] at g2 t1 t4 HC2
    have HX := Lib.hid hx; clear hx
    have HROW := Lib.hid hrow; clear hrow
    obtain ⟨y, hy⟩ : ∃ x, x = row.length := ⟨_, rfl⟩
    rw [← hy] at g2 t1 t4 HC2
    have HY := Lib.hid hy; clear hy
    have T4 := Lib.hid t4; clear t4
    have HA' := Lib.hid hA; have la := hA.lt; clear hA
    have HBr := Lib.hid hB; clear hB
    by_cases hlen : y = x
    case neg =>
      have hb2 : ((y : Int) != (x : Int)) = true := by simp; omega
      have hno : Hid (res = false) := Lib.hid (by rw [hres.out]; exact range_not hlt (by unfold orowOk; rw [← HROW.out, ← HX.out, decide_eq_false (by rw [← HY.out]; exact hlen)]; rfl))
      clear hlen
      go_wp2
      go_quiet (fail)
      go_wp2
      go_ret
      exact ⟨by rw [hno.out]; rfl, below_drewN HBr.out _⟩
    subst hlen
    have hb2 : ((y : Int) != (y : Int)) = false := by simp
    go_wp2
    go_quiet (fail)
    rename_i nq
    go_wp2
    have hA := HA'.out.of (below_drewN (Below.refl _ wr) nq) la
    have hB := below_drewN HBr.out nq
    clear g1 g2 c2 c3
    go_loopw [4] (fun i wr => ∃ c : Nat, c ≤ y ∧ i = .int .i64 c ∧ Below w.heap.size w wr ∧ Blk wr g [.int .i64 r.turner.letters, .int .i64 r.turner.start, .slice (some ⟨p, o, none⟩) m cap, .slice (some ⟨p2, o2, none⟩) m bcap] 40 ∧ Hid (∀ i, i < c → outOk (row[i]?.getD ByteArray.empty) = true)) (fun i _ => y - (intOf i).toNat)
    case atStart => exact ⟨0, by omega, rfl, hB, hA, Lib.hid (fun i hi => absurd hi (by omega))⟩
    case round =>
      clear hA hB
      obtain ⟨c, hc, rfl, hB, hA, HC⟩ := hrel
      have g2 := (hB.cell l2).trans HC2.out
      have c3 := hA.cell 3 rfl
      by_cases hcm : c < y
      case neg =>
        obtain rfl : c = y := by omega
        have hyes : Hid (orowOk (r.out[k]?.getD default) (r.turner.moves[k]?.getD default).length = true) := Lib.hid (by unfold orowOk; rw [← HROW.out, ← HX.out, decide_eq_true HY.out.symm, Bool.true_and]; exact all_of_idx ByteArray.empty _ _ (fun i hi => HC.out i (by rw [HY.out]; exact hi)))
        go_wp2
        go_roundw
        case rel => exact ⟨k + 1, by omega, by go_num, hB, hA, Lib.hid (fun i hi => by by_cases h : i = k; (subst h; exact hyes.out); exact HE.out i (by omega))⟩
        case measure => simp [intOf]; omega
      obtain ⟨s, t, rfl, -, hp, hps⟩ := T4.out c hcm
      have p0 := (hB.cell (World.block_lt_of_cell? w _ hp)).trans hp
      clear hp
      obtain ⟨tx, htx⟩ : ∃ x, x = row[c]?.getD ByteArray.empty := ⟨_, rfl⟩
      rw [← htx] at p0 hps
      have HTX := Lib.hid htx; clear htx
      have HA5 := Lib.hid hA; clear hA
      have HB5 := Lib.hid hB; clear hB
      cases hok : outOk tx
      · have HOK := Lib.hid hok; clear hok
        have hno : Hid (res = false) := Lib.hid (by rw [hres.out]; exact range_not hlt (by unfold orowOk; rw [← HROW.out]; rw [all_not_idx ByteArray.empty outOk row c (by rw [← HY.out]; exact hcm) (by rw [← HTX.out]; exact HOK.out), Bool.and_false]))
        go_wp2_with fail
        refine (l07Text_is false _ _ HOK.out hps).mono ?_
        rintro e w6 ⟨rfl, rfl⟩
        go_wp2
        go_ret
        exact ⟨by rw [hno.out]; rfl, HB5.out⟩
      · have HOK := Lib.hid hok; clear hok
        go_wp2_with fail
        refine (l07Text_is true _ _ HOK.out hps).mono ?_
        rintro e w6 ⟨rfl, rfl⟩
        go_wp2
        go_roundw
        case rel => exact ⟨c + 1, by omega, by go_num, HB5.out, HA5.out, Lib.hid (fun i hi => by by_cases h : i = c; (subst h; rw [← HTX.out]; exact HOK.out); exact HC.out i (by omega))⟩
        case measure => simp [intOf]; omega

end Go.Proofs.YtcifdkliiljmkaaGreatDoor

/-
  A writer, if it is valid: the program's and the reference's (written by a program of this claim's own, gen_told.py).
-/
namespace Go.Proofs.YtcifdkliiljmkaaGreatDoor
open Go.RowKit

theorem validWriter_is (b : Bool) (cs : List Value) (r : Writer) (B : Nat) (w : World) (hB0 : B ≤ w.heap.size) (h : writE.rd w B cs r) (hb : writerOk r = b) :
    Calls Tryz.prog 51 #[.agg cs.toArray] w (Gives (.bool b) w) := hb ▸ validWriter_any cs r B w hB0 h
theorem l07Ok_is (b : Bool) (v2 v3 : Value) (r : Writer) (B g : Nat) (w : World) (hB0 : B ≤ w.heap.size) (hA0 : Blk w g [.int .i64 r.turner.letters, .int .i64 r.turner.start, v2, v3] 40)
    (k2 : movessE.rd w B [v2] r.turner.moves) (h3 : strssE.rd w B [v3] r.out) (hb : writerOk r = b) :
    Calls Tryz.prog 46 #[.pointer (some ⟨g, 0, none⟩)] w (Gives (.bool b) w) := hb ▸ l07Ok_any v2 v3 r B g w hB0 hA0 k2 h3

set_option maxHeartbeats 1000000 in
theorem writerOr_yes (cs : List Value) (r : Writer) (B : Nat) (w : World) (hB0 : B ≤ w.heap.size) (h : writE.rd w B cs r) (hv : writerOk r = true) :
    Calls Tryz.prog 58 #[.agg cs.toArray] w (Gives (.tuple #[.agg cs.toArray, .int .i64 0]) w) := by
  have H0 := Lib.hid h
  obtain ⟨v2, v3, rfl, -, -, h2, h3⟩ := rd_WriterF h
  obtain ⟨sa, sn, sc, rfl⟩ := rd_slice h2
  obtain ⟨ta, tn, tc, rfl⟩ := rd_slice h3
  have H2 := Lib.hid h2
  have H3 := Lib.hid h3
  have HV := Lib.hid hv
  clear h h2 h3 hv
  have S := ((Star.nil w).alloc (cs := #[.int .i64 r.turner.letters, .int .i64 r.turner.start, .slice sa sn sc, .slice ta tn tc]) (ty := 40)).alloc (cs := #[.int .i64 0, .int .i64 0, .slice none 0 0, .slice none 0 0]) (ty := 40)
  rw [World.size_alloc] at S
  go_enter Tryz.func58, Tryz.ntmps58
  go_wp2_with fail
  generalize hW : (w.alloc _).alloc _ = w0 at S ⊢
  clear hW
  have hb0 := S.below.size
  refine (validWriter_is true _ r B w0 (Nat.le_trans hB0 hb0) (writE.rd_of (S.below.mono hB0) H0.out) HV.out).mono ?_
  rintro e w1 ⟨rfl, b⟩
  replace S := S.step b
  clear b
  have c0 := (S.blk 1 rfl).cell 0 rfl
  have c1 := (S.blk 1 rfl).cell 1 rfl
  have c2 := (S.blk 1 rfl).cell 2 rfl
  have c3 := (S.blk 1 rfl).cell 3 rfl
  have A0 := S.blk 0 rfl
  have d0 := A0.cell 0 rfl
  have d1 := A0.cell 1 rfl
  have d2 := A0.cell 2 rfl
  have d3 := A0.cell 3 rfl
  have f0 := A0.free
  go_wp2
  generalize hW : (((w1.setCell _ _).setCell _ _).setCell _ _).setCell _ _ = w3
  replace S := S.set4 rfl hW
  have A3 := S.blk 0 rfl
  have q0 := A3.cell 0 rfl
  have q1 := A3.cell 1 rfl
  have q2 := A3.cell 2 rfl
  have q3 := A3.cell 3 rfl
  exact bodyPost_ret (v := .tuple #[.agg #[.int .i64 r.turner.letters, .int .i64 r.turner.start, .slice sa sn sc, .slice ta tn tc], .int .i64 0]) (by simp [results, Tryz.results58, go_sem, q0, q1, q2, q3]) rfl ⟨rfl, S.below⟩

set_option maxHeartbeats 1000000 in
theorem writerOr_no (cs : List Value) (r : Writer) (B : Nat) (w : World) (hB0 : B ≤ w.heap.size) (h : writE.rd w B cs r) (hv : writerOk r = false) :
    Calls Tryz.prog 58 #[.agg cs.toArray] w (Gives (.tuple #[.agg #[.int .i64 0, .int .i64 0, .slice none 0 0, .slice none 0 0], .int .i64 3]) w) := by
  have H0 := Lib.hid h
  obtain ⟨v2, v3, rfl, -, -, h2, h3⟩ := rd_WriterF h
  obtain ⟨sa, sn, sc, rfl⟩ := rd_slice h2
  obtain ⟨ta, tn, tc, rfl⟩ := rd_slice h3
  have H2 := Lib.hid h2
  have H3 := Lib.hid h3
  have HV := Lib.hid hv
  clear h h2 h3 hv
  have S := ((Star.nil w).alloc (cs := #[.int .i64 r.turner.letters, .int .i64 r.turner.start, .slice sa sn sc, .slice ta tn tc]) (ty := 40)).alloc (cs := #[.int .i64 0, .int .i64 0, .slice none 0 0, .slice none 0 0]) (ty := 40)
  rw [World.size_alloc] at S
  go_enter Tryz.func58, Tryz.ntmps58
  go_wp2_with fail
  generalize hW : (w.alloc _).alloc _ = w0 at S ⊢
  clear hW
  have hb0 := S.below.size
  refine (validWriter_is false _ r B w0 (Nat.le_trans hB0 hb0) (writE.rd_of (S.below.mono hB0) H0.out) HV.out).mono ?_
  rintro e w1 ⟨rfl, b⟩
  replace S := S.step b
  clear b
  have c0 := (S.blk 1 rfl).cell 0 rfl
  have c1 := (S.blk 1 rfl).cell 1 rfl
  have c2 := (S.blk 1 rfl).cell 2 rfl
  have c3 := (S.blk 1 rfl).cell 3 rfl
  have A0 := S.blk 0 rfl
  have d0 := A0.cell 0 rfl
  have d1 := A0.cell 1 rfl
  have d2 := A0.cell 2 rfl
  have d3 := A0.cell 3 rfl
  have f0 := A0.free
  go_wp2
  generalize hW : (((w1.setCell _ _).setCell _ _).setCell _ _).setCell _ _ = w3
  replace S := S.set4 rfl hW
  have A3 := S.blk 0 rfl
  have q0 := A3.cell 0 rfl
  have q1 := A3.cell 1 rfl
  have q2 := A3.cell 2 rfl
  have q3 := A3.cell 3 rfl
  exact bodyPost_ret (v := .tuple #[.agg #[.int .i64 0, .int .i64 0, .slice none 0 0, .slice none 0 0], .int .i64 3]) (by simp [results, Tryz.results58, go_sem, q0, q1, q2, q3]) rfl ⟨rfl, S.below⟩

set_option maxHeartbeats 1000000 in
theorem told_yes (cs : List Value) (r : Writer) (B : Nat) (w : World) (hB0 : B ≤ w.heap.size) (h : writE.rd w B cs r) (hv : writerOk r = true) :
    Calls Tryz.prog 49 #[.agg cs.toArray] w (Gives (.tuple #[.agg cs.toArray, .int .i64 0]) w) := by
  have H0 := Lib.hid h
  obtain ⟨v2, v3, rfl, -, -, h2, h3⟩ := rd_WriterF h
  obtain ⟨sa, sn, sc, rfl⟩ := rd_slice h2
  obtain ⟨ta, tn, tc, rfl⟩ := rd_slice h3
  have H2 := Lib.hid h2
  have H3 := Lib.hid h3
  have HV := Lib.hid hv
  clear h h2 h3 hv
  have S := ((Star.nil w).alloc (cs := #[.int .i64 r.turner.letters, .int .i64 r.turner.start, .slice sa sn sc, .slice ta tn tc]) (ty := 40)).alloc (cs := #[.int .i64 0, .int .i64 0, .slice none 0 0, .slice none 0 0]) (ty := 40)
  rw [World.size_alloc] at S
  go_enter Tryz.func49, Tryz.ntmps49
  go_wp2_with fail
  generalize hW : (w.alloc _).alloc _ = w0 at S ⊢
  clear hW
  have hb0 := S.below.size
  refine (l07Ok_is true _ _ r B _ w0 (Nat.le_trans hB0 hb0) (S.blk 1 rfl) (movessE.rd_of (S.below.mono hB0) H2.out) (strssE.rd_of (S.below.mono hB0) H3.out) HV.out).mono ?_
  rintro e w1 ⟨rfl, b⟩
  replace S := S.step b
  clear b
  have c0 := (S.blk 1 rfl).cell 0 rfl
  have c1 := (S.blk 1 rfl).cell 1 rfl
  have c2 := (S.blk 1 rfl).cell 2 rfl
  have c3 := (S.blk 1 rfl).cell 3 rfl
  have A0 := S.blk 0 rfl
  have d0 := A0.cell 0 rfl
  have d1 := A0.cell 1 rfl
  have d2 := A0.cell 2 rfl
  have d3 := A0.cell 3 rfl
  have f0 := A0.free
  go_wp2
  generalize hW : (((w1.setCell _ _).setCell _ _).setCell _ _).setCell _ _ = w3
  replace S := S.set4 rfl hW
  have A3 := S.blk 0 rfl
  have q0 := A3.cell 0 rfl
  have q1 := A3.cell 1 rfl
  have q2 := A3.cell 2 rfl
  have q3 := A3.cell 3 rfl
  exact bodyPost_ret (v := .tuple #[.agg #[.int .i64 r.turner.letters, .int .i64 r.turner.start, .slice sa sn sc, .slice ta tn tc], .int .i64 0]) (by simp [results, Tryz.results49, go_sem, q0, q1, q2, q3]) rfl ⟨rfl, S.below⟩

set_option maxHeartbeats 1000000 in
theorem told_no (cs : List Value) (r : Writer) (B : Nat) (w : World) (hB0 : B ≤ w.heap.size) (h : writE.rd w B cs r) (hv : writerOk r = false) :
    Calls Tryz.prog 49 #[.agg cs.toArray] w (Gives (.tuple #[.agg #[.int .i64 0, .int .i64 0, .slice none 0 0, .slice none 0 0], .int .i64 3]) w) := by
  have H0 := Lib.hid h
  obtain ⟨v2, v3, rfl, -, -, h2, h3⟩ := rd_WriterF h
  obtain ⟨sa, sn, sc, rfl⟩ := rd_slice h2
  obtain ⟨ta, tn, tc, rfl⟩ := rd_slice h3
  have H2 := Lib.hid h2
  have H3 := Lib.hid h3
  have HV := Lib.hid hv
  clear h h2 h3 hv
  have S := ((Star.nil w).alloc (cs := #[.int .i64 r.turner.letters, .int .i64 r.turner.start, .slice sa sn sc, .slice ta tn tc]) (ty := 40)).alloc (cs := #[.int .i64 0, .int .i64 0, .slice none 0 0, .slice none 0 0]) (ty := 40)
  rw [World.size_alloc] at S
  go_enter Tryz.func49, Tryz.ntmps49
  go_wp2_with fail
  generalize hW : (w.alloc _).alloc _ = w0 at S ⊢
  clear hW
  have hb0 := S.below.size
  refine (l07Ok_is false _ _ r B _ w0 (Nat.le_trans hB0 hb0) (S.blk 1 rfl) (movessE.rd_of (S.below.mono hB0) H2.out) (strssE.rd_of (S.below.mono hB0) H3.out) HV.out).mono ?_
  rintro e w1 ⟨rfl, b⟩
  replace S := S.step b
  clear b
  have c0 := (S.blk 1 rfl).cell 0 rfl
  have c1 := (S.blk 1 rfl).cell 1 rfl
  have c2 := (S.blk 1 rfl).cell 2 rfl
  have c3 := (S.blk 1 rfl).cell 3 rfl
  have A0 := S.blk 0 rfl
  have d0 := A0.cell 0 rfl
  have d1 := A0.cell 1 rfl
  have d2 := A0.cell 2 rfl
  have d3 := A0.cell 3 rfl
  have f0 := A0.free
  go_wp2
  generalize hW : (((w1.setCell _ _).setCell _ _).setCell _ _).setCell _ _ = w3
  replace S := S.set4 rfl hW
  have A3 := S.blk 0 rfl
  have q0 := A3.cell 0 rfl
  have q1 := A3.cell 1 rfl
  have q2 := A3.cell 2 rfl
  have q3 := A3.cell 3 rfl
  exact bodyPost_ret (v := .tuple #[.agg #[.int .i64 0, .int .i64 0, .slice none 0 0, .slice none 0 0], .int .i64 3]) (by simp [results, Tryz.results49, go_sem, q0, q1, q2, q3]) rfl ⟨rfl, S.below⟩

theorem rd_writE {w : World} {B : Nat} {v2 v3 : Value} {r : Writer} (h2 : movessE.rd w B [v2] r.turner.moves) (h3 : strssE.rd w B [v3] r.out) (b0 : -9223372036854775808 ≤ r.turner.letters ∧ r.turner.letters ≤ 9223372036854775807) (b1 : -9223372036854775808 ≤ r.turner.start ∧ r.turner.start ≤ 9223372036854775807) :
    writE.rd w B [.int .i64 r.turner.letters, .int .i64 r.turner.start, v2, v3] r :=
  ⟨[_, _, v2], [v3], rfl, ⟨[_], [_, v2], rfl, ⟨rfl, b0⟩, ⟨[_], [v2], rfl, ⟨rfl, b1⟩, h2⟩⟩, h3⟩

end Go.Proofs.YtcifdkliiljmkaaGreatDoor

/-
  What right turners and writers hold (written by a program of this claim's own, gen_text.py).
-/
namespace Go.Proofs.YtcifdkliiljmkaaGreatDoor
open Go.RowKit

/-- What a right move holds. -/
def mvOk (m : Move) : Prop := m.to = -1 ∨ m.to = -2 ∨ ((0 ≤ m.to ∧ m.to ≤ 99) ∧ (-1 ≤ m.dir ∧ m.dir ≤ 1))

theorem mvOk_of {m : Move} {n l k : Int} (h : moveOk m n l k = true) (hn : n ≤ 99) : mvOk m := by
  unfold moveOk at h
  rw [Bool.or_eq_true] at h
  rcases h with h | h
  · unfold isStopB at h
    rw [Bool.and_eq_true, Bool.or_eq_true, beq_iff_eq, beq_iff_eq] at h
    rcases h.1 with h | h
    · exact .inl h
    · exact .inr (.inl h)
  · rw [Bool.and_eq_true, Bool.and_eq_true, Bool.and_eq_true] at h
    have h1 := within_true.1 h.1.1.1
    have h2 := within_true.1 h.1.1.2
    exact .inr (.inr ⟨⟨by omega, by omega⟩, h2⟩)

structure TurnOk (t : Turner) : Prop where
  l1 : 1 ≤ t.letters
  l3 : t.letters ≤ 3
  n1 : 1 ≤ t.moves.length
  n12 : t.moves.length ≤ 12
  s0 : 0 ≤ t.start
  s1 : t.start < t.moves.length
  row : ∀ x, x ∈ t.moves → (x.length : Int) = t.letters + 2 ∧ ∀ k, k < x.length → moveOk (x[k]?.getD default) t.moves.length t.letters k = true

theorem turnOk_of {t : Turner} (h : validTurn t = true) : TurnOk t := by
  unfold validTurn at h
  rw [Bool.and_eq_true, Bool.and_eq_true, Bool.and_eq_true] at h
  have h1 := within_true.1 h.1
  have h2 := within_true.1 h.2.1
  have h3 := within_true.1 h.2.2.1
  refine ⟨h1.1, h1.2, by omega, by omega, h3.1, by omega, fun x hx => ?_⟩
  have h4 := List.all_eq_true.1 h.2.2.2 x hx
  unfold mrowOk at h4
  rw [Bool.and_eq_true, decide_eq_true_eq] at h4
  exact ⟨h4.1, fun k hk => List.all_eq_true.1 h4.2 k (List.mem_range.2 hk)⟩

theorem TurnOk.len {t : Turner} (K : TurnOk t) {x : List Move} (hx : x ∈ t.moves) : x.length ≤ 5 := by
  have := (K.row x hx).1; have := K.l3; omega

theorem TurnOk.mv {t : Turner} (K : TurnOk t) {x : List Move} (hx : x ∈ t.moves) {k : Nat} (hk : k < x.length) : mvOk (x[k]?.getD default) :=
  mvOk_of ((K.row x hx).2 k hk) (by have := K.n12; omega)

theorem mem_getD {α : Type} [Inhabited α] {l : List α} {k : Nat} (h : k < l.length) : l[k]?.getD default ∈ l := by
  rw [List.getElem?_eq_getElem h]; exact List.getElem_mem h

theorem getD_of_mem {α : Type} [Inhabited α] {l : List α} {x : α} (h : x ∈ l) : ∃ k, k < l.length ∧ l[k]?.getD default = x := by
  obtain ⟨k, hk, he⟩ := List.getElem_of_mem h
  exact ⟨k, hk, by rw [List.getElem?_eq_getElem hk]; exact he⟩

structure WritOk (r : Writer) : Prop where
  t : TurnOk r.turner
  v : validTurn r.turner = true
  n : r.out.length = r.turner.moves.length
  row : ∀ s, s < r.out.length → (r.out[s]?.getD default).length = (r.turner.moves[s]?.getD default).length ∧ ∀ x, x ∈ r.out[s]?.getD default → outOk x = true

theorem writOk_of {r : Writer} (h : writerOk r = true) : WritOk r := by
  unfold writerOk at h
  rw [Bool.and_eq_true, Bool.and_eq_true, decide_eq_true_eq] at h
  refine ⟨turnOk_of h.1, h.1, h.2.1, fun s hs => ?_⟩
  have h4 := List.all_eq_true.1 h.2.2 s (List.mem_range.2 (by omega))
  unfold orowOk at h4
  rw [Bool.and_eq_true, decide_eq_true_eq] at h4
  exact ⟨h4.1, fun x hx => List.all_eq_true.1 h4.2 x hx⟩

theorem out_size {x : ByteArray} (h : outOk x = true) : x.size ≤ 3 := by
  unfold outOk at h
  rw [Bool.and_eq_true, decide_eq_true_eq] at h
  exact h.1

theorem WritOk.len {r : Writer} (K : WritOk r) {x : List ByteArray} (hx : x ∈ r.out) : x.length ≤ 5 := by
  obtain ⟨s, hs, rfl⟩ := getD_of_mem hx
  rw [(K.row s hs).1]
  exact K.t.len (mem_getD (by rw [← K.n]; exact hs))

theorem WritOk.sz {r : Writer} (K : WritOk r) {x : List ByteArray} (hx : x ∈ r.out) {y : ByteArray} (hy : y ∈ x) : y.size ≤ 3 := by
  obtain ⟨s, hs, rfl⟩ := getD_of_mem hx
  exact out_size ((K.row s hs).2 y hy)

end Go.Proofs.YtcifdkliiljmkaaGreatDoor

/-
  Plain definitions: what the laws' mark.. helpers leave in a value, and what the held.. helpers look for; a value with an element exchanged. No program is named here.
-/
namespace Go.Proofs.YtcifdkliiljmkaaGreatDoor
open Go.RowKit

/-- A value that bears marks from a number on, and how many it bears. -/
structure Mk (α : Type) where
  held : α → Int → Prop
  cnt : α → Nat

def intsM : Mk (List Int) := ⟨fun l k => ∀ i, i < l.length → l[i]?.getD 0 = k + i, List.length⟩
def boolsM : Mk (List Bool) := ⟨fun l k => ∀ i, i < l.length → l[i]?.getD false = decide ((k + i) % 3 = 0), List.length⟩
def movesM : Mk (List Move) := ⟨fun l k => ∀ i, i < l.length → l[i]?.getD default = ⟨k + 2 * i, k + 2 * i + 1⟩, fun l => 2 * l.length⟩
def pmovesM : Mk (List PMove) := ⟨fun l k => ∀ i, i < l.length → l[i]?.getD default = ⟨k + 3 * i, k + 3 * i + 1, k + 3 * i + 1 + 1⟩, fun l => 3 * l.length⟩

def heldL {α : Type} (M : Mk α) : List α → Int → Prop
  | [], _ => True
  | a :: l, k => M.held a k ∧ heldL M l (k + M.cnt a)
def cntL {α : Type} (M : Mk α) (l : List α) : Nat := (l.map M.cnt).sum
def listM {α : Type} (M : Mk α) : Mk (List α) := ⟨heldL M, cntL M⟩

theorem heldL_append {α : Type} (M : Mk α) (l : List α) (a : α) (k : Int) : heldL M (l ++ [a]) k ↔ heldL M l k ∧ M.held a (k + cntL M l) := by
  induction l generalizing k with
  | nil => simp [heldL, cntL]
  | cons b l ih =>
    simp only [List.cons_append, heldL, ih, cntL, List.map_cons, List.sum_cons, and_assoc]
    rw [show k + (M.cnt b : Int) + ((l.map M.cnt).sum : Nat) = k + ((M.cnt b + (l.map M.cnt).sum : Nat) : Int) from by omega]

theorem cntL_append {α : Type} (M : Mk α) (l l' : List α) : cntL M (l ++ l') = cntL M l + cntL M l' := by simp [cntL]

theorem cntL_take_le {α : Type} (M : Mk α) (l : List α) (k : Nat) : cntL M (l.take k) ≤ cntL M l := by
  conv => rhs; rw [← List.take_append_drop k l]
  rw [cntL_append]; omega

theorem cntL_take {α : Type} (M : Mk α) (l : List α) (k : Nat) (x : α) (h : l[k]? = some x) : cntL M (l.take (k + 1)) = cntL M (l.take k) + M.cnt x := by
  obtain ⟨hk, rfl⟩ := List.getElem?_eq_some_iff.1 h
  rw [List.take_succ_eq_append_getElem hk, cntL_append]
  simp [cntL]

theorem heldL_take {α : Type} (M : Mk α) (l : List α) (k : Nat) (j : Int) (x : α) (h : l[k]? = some x) (hh : heldL M l j) : M.held x (j + cntL M (l.take k)) := by
  induction l generalizing k j with
  | nil => simp at h
  | cons a l ih =>
    cases k with
    | zero =>
      simp only [List.getElem?_cons_zero, Option.some.injEq] at h
      subst h
      simpa [cntL] using hh.1
    | succ k =>
      have := ih k (j + M.cnt a) (by simpa using h) hh.2
      rw [List.take_succ_cons]
      have e : cntL M (a :: l.take k) = M.cnt a + cntL M (l.take k) := by simp [cntL]
      rw [e]
      rwa [show j + ((M.cnt a + cntL M (l.take k) : Nat) : Int) = j + (M.cnt a : Int) + (cntL M (l.take k) : Nat) from by omega]

/-! ### A value of its own whose one element is exchanged -/

theorem OwAll.at {α : Type} {E : Enc α} {w : World} {l : List α} {xss : List (List Value)} {fps : List (List Nat)} (h : OwAll E w l xss fps) (hn : fps.flatten.Nodup) :
    ∀ j x, l[j]? = some x → ∃ xs f, xss[j]? = some xs ∧ E.ow w xs x f ∧ f.Nodup ∧ (∀ b, b ∈ f → b ∈ fps.flatten) ∧
      ∀ (w' : World) x', But f w w' → E.ow w' xs x' f → OwAll E w' (l.set j x') xss fps := by
  induction h with
  | nil => intro j x hx; simp at hx
  | @cons a l cs xss f fps h1 h2 ih =>
    rw [List.flatten_cons, List.nodup_append] at hn
    obtain ⟨n1, n2, n3⟩ := hn
    intro j x hx
    cases j with
    | zero =>
      simp only [List.getElem?_cons_zero, Option.some.injEq] at hx
      subst hx
      refine ⟨cs, f, rfl, h1, n1, fun b hb => by simp [hb], fun w' x' hb ho => ?_⟩
      rw [List.set_cons_zero]
      refine .cons ho (h2.frame fun b hm => ?_)
      exact hb.block b (h2.lt b hm) (fun hf => n3 b hf b hm rfl)
    | succ j =>
      obtain ⟨xs, g, e1, e2, e3, e4, e5⟩ := ih n2 j x (by simpa using hx)
      refine ⟨xs, g, by simpa using e1, e2, e3, fun b hb => by rw [List.flatten_cons]; exact List.mem_append_right _ (e4 b hb), fun w' x' hb ho => ?_⟩
      rw [List.set_cons_succ]
      refine .cons (E.ow_but h1 hb (fun b hm hg => n3 b hm b (e4 b hg) rfl)) (e5 w' x' hb ho)

theorem ow_elem {α : Type} {E : Enc α} {ty : TypeId} {w : World} {v : Value} {l : List α} {fp : List Nat} (h : (sliceE E ty).ow w [v] l fp) (hn : fp.Nodup) (j : Nat) (x : α) (hx : l[j]? = some x) :
    ∃ g cap xs f, v = .slice (some ⟨g, 0, none⟩) l.length cap ∧ g < w.heap.size ∧ E.ow w xs x f ∧ f.Nodup ∧ (∀ b, b ∈ f → b ∈ fp ∧ b ≠ g) ∧ (∀ i u, xs[i]? = some u → w.cell? ⟨g, j * E.size + i, none⟩ = some u) ∧
      ∀ (w' : World) x', But f w w' → E.ow w' xs x' f → (sliceE E ty).ow w' [v] (l.set j x') fp := by
  obtain ⟨v', xss, fps, hv, h1, h2, rfl⟩ := h
  obtain rfl : v = v' := by simpa using hv
  rw [List.nodup_append] at hn
  obtain ⟨n1, n2, n3⟩ := hn
  obtain ⟨xs, f, e1, e2, e3, e4, e5⟩ := h1.at n2 j x hx
  have hj := (List.getElem?_eq_some_iff.1 hx).1
  obtain ⟨hl2, hr⟩ := h2
  rcases hr with ⟨_, h0⟩ | ⟨g, cap, cur, rfl, hg, hh, hc, hm, hs, ht⟩
  · omega
  refine ⟨g, cap, xs, f, rfl, (Array.getElem?_eq_some_iff.1 hh).1, e2, e3, fun b hb => ⟨List.mem_append_right _ (e4 b hb), fun e => n3 g (by simp [Value.ownBlock]) b (e4 b hb) e.symm⟩, fun i u hu => ?_, fun w' x' hb ho => ?_⟩
  · obtain ⟨xs', f', q1, _, _, _, q5⟩ := h1.rdAt (B := w.heap.size) h1.lt j x hx
    rw [e1] at q1
    cases q1
    have hf := q5 i u hu
    rw [← ht, List.getElem?_take] at hf
    split at hf
    · unfold World.cell?
      rw [hh]
      simpa using hf
    · cases hf
  · refine ⟨_, xss, fps, rfl, e5 w' x' hb ho, ?_, rfl⟩
    rw [List.length_set]
    refine ⟨hl2, .inr ⟨g, cap, cur, rfl, hg, ?_, hc, hm, hs, ht⟩⟩
    rw [hb.block g (Array.getElem?_eq_some_iff.1 hh).1 (fun hf => n3 g (by simp [Value.ownBlock]) g (e4 g hf) rfl)]
    exact hh

/-- What a mark.. helper does. -/
def Marks {α : Type} (E : Enc α) (M : Mk α) (cs : List Value) (a : α) (fp : List Nat) (k : Int) (w : World) (e : Ending) (w' : World) : Prop :=
  ∃ a', e = .returned (.int .i64 (k + M.cnt a)) ∧ E.ow w' cs a' fp ∧ M.held a' k ∧ M.cnt a' = M.cnt a ∧ But fp w w'

theorem marks_nil {α : Type} {E : Enc α} {M : Mk α} {cs : List Value} {a : α} {fp : List Nat} {k : Int} {w : World} (ho : E.ow w cs a fp) (hm : M.held a k) (hc : M.cnt a = 0) : Marks E M cs a fp k w (.returned (.int .i64 k)) w :=
  ⟨a, by rw [hc]; simp, ho, hm, rfl, But.refl _ _⟩

theorem ow_flat_inv {α : Type} {E : Enc α} {ty : TypeId} {w : World} {v : Value} {l : List α} {fp : List Nat} (c : α → Value) (hE : E.size = 1) (inv : ∀ w xs x f, E.ow w xs x f → xs = [c x] ∧ f = []) (h : (sliceE E ty).ow w [v] l fp) :
    fp = v.ownBlock.toList ∧ w.ownsRow 0 ty 1 v l.length (l.map c) ∧ ∀ x, x ∈ l → E.ow w [c x] x [] := by
  obtain ⟨v', xss, fps, hv, h1, h2, rfl⟩ := h
  obtain rfl : v = v' := by simpa using hv
  have key : xss.flatten = l.map c ∧ fps.flatten = [] ∧ ∀ x, x ∈ l → E.ow w [c x] x [] := by
    clear h2 hv
    induction h1 with
    | nil => exact ⟨rfl, rfl, fun x hx => by cases hx⟩
    | @cons a l cs xss f fps h1 h2 ih =>
      obtain ⟨rfl, rfl⟩ := inv _ _ _ _ h1
      obtain ⟨i1, i2, i3⟩ := ih
      refine ⟨by simp [i1], by simp [i2], fun x hx => ?_⟩
      rcases List.mem_cons.1 hx with rfl | hx
      · exact h1
      · exact i3 x hx
  obtain ⟨k1, k2, k3⟩ := key
  rw [hE, k1] at h2
  exact ⟨by rw [k2, List.append_nil], h2, k3⟩

theorem ow_flats_inv {α : Type} {E : Enc α} {ty : TypeId} {w : World} {v : Value} {l : List α} {fp : List Nat} (c : α → List Value) (inv : ∀ w xs x f, E.ow w xs x f → xs = c x ∧ f = []) (h : (sliceE E ty).ow w [v] l fp) :
    fp = v.ownBlock.toList ∧ w.ownsRow 0 ty E.size v l.length (l.flatMap c) := by
  obtain ⟨v', xss, fps, hv, h1, h2, rfl⟩ := h
  obtain rfl : v = v' := by simpa using hv
  have key : xss.flatten = l.flatMap c ∧ fps.flatten = [] := by
    clear h2 hv
    induction h1 with
    | nil => exact ⟨rfl, rfl⟩
    | @cons a l cs xss f fps h1 h2 ih =>
      obtain ⟨rfl, rfl⟩ := inv _ _ _ _ h1
      obtain ⟨i1, i2⟩ := ih
      exact ⟨by simp [i1], by simp [i2]⟩
  obtain ⟨k1, k2⟩ := key
  rw [k1] at h2
  exact ⟨by rw [k2, List.append_nil], h2⟩

theorem ret_k {a b : Int} (h : a = b) : Value.int .i64 a = Value.int .i64 b := by rw [h]

theorem ow_len {α : Type} {E : Enc α} {ty : TypeId} {w : World} {v : Value} {l : List α} {fp : List Nat} (h : (sliceE E ty).ow w [v] l fp) : l.length ≤ 9223372036854775807 := len_le ((sliceE E ty).rd_ow h)

/-- A slice of slices (or structs of one cell) of which the first j elements have been marked. -/
def MState {α : Type} (E : Enc α) (ty : TypeId) (M : Mk α) (l : List α) (fp : List Nat) (v : Value) (k0 : Int) (w wr : World) (j : Nat) : Prop :=
  ∃ l', (sliceE E ty).ow wr [v] l' fp ∧ But fp w wr ∧ heldL M (l'.take j) k0 ∧ (∀ i, j ≤ i → l'[i]? = l[i]?) ∧ l'.map M.cnt = l.map M.cnt

section
variable {α : Type} {E : Enc α} {ty : TypeId} {M : Mk α} {l : List α} {fp : List Nat} {v : Value} {k0 : Int} {w wr : World} {j : Nat}

theorem MState.start (h : (sliceE E ty).ow w [v] l fp) : MState E ty M l fp v k0 w w 0 := ⟨l, h, But.refl _ _, trivial, fun _ _ => rfl, rfl⟩

theorem cntL_take_congr {l l' : List α} (h : l'.map M.cnt = l.map M.cnt) (j : Nat) : cntL M (l'.take j) = cntL M (l.take j) := by
  unfold cntL
  rw [List.map_take, List.map_take, h]

theorem MState.elem (hE : E.size = 1) (hn : fp.Nodup) (h : MState E ty M l fp v k0 w wr j) {x : α} (hx : l[j]? = some x) :
    ∃ g cap vk f, v = .slice (some ⟨g, 0, none⟩) l.length cap ∧ wr.cell? ⟨g, j, none⟩ = some vk ∧ E.ow wr [vk] x f ∧ f.Nodup ∧
      ∀ (w' : World) x', But f wr w' → E.ow w' [vk] x' f → M.held x' (k0 + cntL M (l.take j)) → M.cnt x' = M.cnt x → MState E ty M l fp v k0 w w' (j + 1) := by
  obtain ⟨l', h1, h2, h3, h4, h5⟩ := h
  have hlen : l'.length = l.length := by have := congrArg List.length h5; simpa using this
  obtain ⟨g, cap, xs, f, e1, e2, e3, e4, e5, e6, e7⟩ := ow_elem h1 hn j x (by rw [h4 j (Nat.le_refl _)]; exact hx)
  have hl := E.rd_len (E.rd_ow e3)
  rw [hE] at hl
  match xs, hl with
  | [vk], _ =>
    rw [hlen] at e1
    refine ⟨g, cap, vk, f, e1, by have := e6 0 vk rfl; rw [hE] at this; simpa using this, e3, e4, fun w' x' hb ho hm hc => ?_⟩
    have hjl : j < l'.length := by rw [hlen]; exact (List.getElem?_eq_some_iff.1 hx).1
    refine ⟨l'.set j x', e7 w' x' hb ho, ?_, ?_, fun i hi => ?_, ?_⟩
    · exact h2.trans ⟨hb.os, hb.tape, hb.output, hb.size, fun k hk hnk => hb.block k hk (fun hf => hnk (e5 k hf).1)⟩
    · rw [List.take_succ_eq_append_getElem (by rw [List.length_set]; exact hjl), heldL_append]
      rw [List.take_set_of_le (Nat.le_refl j)]
      refine ⟨h3, ?_⟩
      rw [List.getElem_set_self, cntL_take_congr h5]
      exact hm
    · rw [List.getElem?_set_ne (by omega)]
      exact h4 i (by omega)
    · rw [List.map_set, h5, hc]
      apply List.ext_getElem?
      intro i
      by_cases e : i = j
      · subst e
        rw [List.getElem?_set_self (by simp; omega), List.getElem?_map, hx]; rfl
      · rw [List.getElem?_set_ne (fun e' => e e'.symm)]

theorem MState.done (h : MState E ty M l fp v k0 w wr l.length) : Marks (sliceE E ty) (listM M) [v] l fp k0 w (.returned (.int .i64 (k0 + cntL M l))) wr := by
  obtain ⟨l', h1, h2, h3, h4, h5⟩ := h
  have hlen : l'.length = l.length := by have := congrArg List.length h5; simpa using this
  refine ⟨l', rfl, h1, ?_, ?_, h2⟩
  · rw [← hlen, List.take_length] at h3; exact h3
  · show cntL M l' = cntL M l
    have := cntL_take_congr h5 l.length
    rwa [← hlen, List.take_length, hlen, List.take_length] at this
end

end Go.Proofs.YtcifdkliiljmkaaGreatDoor

/-
  Contracts of the laws' own helpers at one slice type (written by a program of this claim's own, gen_leaf.py).
-/
namespace Go.Proofs.YtcifdkliiljmkaaGreatDoor
open Go.RowKit

set_option maxHeartbeats 1000000 in
theorem markMoveS_any (v : Value) (l : List Move) (fp : List Nat) (k0 : Int) (w : World) (h : movesE.ow w [v] l fp) (h0 : 0 ≤ k0) (h1 : k0 + movesM.cnt l ≤ 4611686018427387904) :
    Calls Tryz.prog 75 #[v, .int .i64 k0] w (Marks movesE movesM [v] l fp k0 w) := by
  have h1 : k0 + 2 * (l.length : Int) ≤ 4611686018427387904 := by have : movesM.cnt l = 2 * l.length := rfl; omega
  obtain ⟨n, hn⟩ : ∃ n, n = l.length := ⟨_, rfl⟩
  obtain ⟨rfl, hO⟩ := ow_flats_inv (E := moveE) cMove (fun _ _ _ _ h => ⟨(ow_moveE_inv h).1, (ow_moveE_inv h).2.1⟩) h
  rw [← hn] at hO h1
  clear h
  have Hn := Lib.hid hn; clear hn
  rcases hO.2 with ⟨rfl, h00⟩ | ⟨g, cap, cur, rfl, -, -, hnc, hcm, -⟩
  · have hl0 := Lib.hid (List.eq_nil_of_length_eq_zero (by rw [← Hn.out]; exact h00))
    subst h00
    have HO := Lib.hid hO; clear hO
    go_enter Tryz.func75, Tryz.ntmps75
    go_wp2
    go_loop [1, 5] (fun k i => i = .int .i64 0 ∧ k = .int .i64 k0) (fun _ _ => 0)
    case atStart => exact ⟨rfl, rfl⟩
    case round =>
      obtain ⟨rfl, rfl⟩ := hrel
      go_wp2
      go_ret
      have e := hl0.out
      subst e
      exact marks_nil (ow_flats cMove (fun x hx => by cases hx) HO.out) (fun i hi => absurd hi (by simp)) rfl
  · simp only [maxLen] at hcm
    have hOs : w.ownsRow 0 93 2 (.slice (some ⟨g, 0, none⟩) n cap) n (l.flatMap cMove) := hO
    clear hO
    go_enter Tryz.func75, Tryz.ntmps75
    go_wp2
    go_loopw [1, 5] (fun k i wr => ∃ j : Nat, ∃ l' : List Move, j ≤ n ∧ i = .int .i64 j ∧ k = .int .i64 (k0 + 2 * (j : Int)) ∧ But [g] w wr ∧ Hid (l'.length = n) ∧ wr.ownsRow 0 93 2 (.slice (some ⟨g, 0, none⟩) n cap) n (l'.flatMap cMove) ∧ Hid (∀ i, i < j → l'[i]?.getD default = ⟨k0 + 2 * (i : Int), k0 + 2 * (i : Int) + 1⟩)) (fun _ i _ => n - (intOf i).toNat)
    case atStart => exact ⟨0, l, by omega, rfl, by simp, But.refl _ _, Lib.hid Hn.out.symm, hOs, Lib.hid (fun i hi => absurd hi (by omega))⟩
    case round =>
      obtain ⟨j, l', hj, rfl, rfl, hB, HL, hO', HJ⟩ := hrel
      by_cases hlt : j < n
      · have jn : (j : Int) < n := by omega
        have z0 : wr.cell? ⟨g, j * 2, none⟩ = some (.int .i64 (l'[j]?.getD default).to) := by
          rw [hO'.cellAt (j * 2) (by omega)]; have := flatMap_get default cMove 2 (fun _ => rfl) l' j 0 (by rw [HL.out]; exact hlt) (by omega); rw [show j * 2 = j * 2 + 0 from rfl, this]; rfl
        have z1 : wr.cell? ⟨g, j * 2 + 1, none⟩ = some (.int .i64 (l'[j]?.getD default).dir) := by
          rw [hO'.cellAt (j * 2 + 1) (by omega)]; have := flatMap_get default cMove 2 (fun _ => rfl) l' j 1 (by rw [HL.out]; exact hlt) (by omega); rw [this]; rfl
        have f0 := hO'.frozenAt (j * 2)
        have f1 := hO'.frozenAt (j * 2 + 1)
        have HS := Lib.hid (((hO'.stored (j * 2) (.int .i64 (k0 + 2 * (j : Int)))).1.stored (j * 2 + 1) (.int .i64 (k0 + 2 * (j : Int) + 1))).1)
        clear hO'
        have HX : Hid ((((l'.flatMap cMove).set (j * 2) (.int .i64 (k0 + 2 * (j : Int)))).set (j * 2 + 1) (.int .i64 (k0 + 2 * (j : Int) + 1))) = (l'.set j (⟨k0 + 2 * (j : Int), k0 + 2 * (j : Int) + 1⟩ : Move)).flatMap cMove) := by
          have e0 : (l'.flatMap cMove).set (j * 2) (.int .i64 (k0 + 2 * (j : Int))) = (l'.set j (⟨k0 + 2 * (j : Int), (l'[j]?.getD default).dir⟩ : Move)).flatMap cMove := flatMap_set default cMove 2 (fun _ => rfl) l' j 0 (.int .i64 (k0 + 2 * (j : Int))) ⟨k0 + 2 * (j : Int), (l'[j]?.getD default).dir⟩ (by simp [HL.out]; exact hlt) (by omega) (by simp [HL.out, hlt, cMove])
          have e1 : ((l'.set j (⟨k0 + 2 * (j : Int), (l'[j]?.getD default).dir⟩ : Move)).flatMap cMove).set (j * 2 + 1) (.int .i64 (k0 + 2 * (j : Int) + 1)) = ((l'.set j (⟨k0 + 2 * (j : Int), (l'[j]?.getD default).dir⟩ : Move)).set j (⟨k0 + 2 * (j : Int), k0 + 2 * (j : Int) + 1⟩ : Move)).flatMap cMove := flatMap_set default cMove 2 (fun _ => rfl) (l'.set j (⟨k0 + 2 * (j : Int), (l'[j]?.getD default).dir⟩ : Move)) j 1 (.int .i64 (k0 + 2 * (j : Int) + 1)) ⟨k0 + 2 * (j : Int), k0 + 2 * (j : Int) + 1⟩ (by simp [HL.out]; exact hlt) (by omega) (by simp [HL.out, hlt, cMove])
          rw [List.set_set] at e1
          exact Lib.hid (by rw [e0, e1])
        generalize (l'[j]?.getD default) = x0 at *
        go_wp2
        go_roundw
        case rel =>
          refine ⟨j + 1, l'.set j ⟨k0 + 2 * (j : Int), k0 + 2 * (j : Int) + 1⟩, by omega, by go_num, ret_k (by omega), ((hB.setCell (by simp) _).setCell (by simp) _), Lib.hid (by rw [List.length_set]; exact HL.out), by rw [← HX.out]; exact HS.out, Lib.hid (fun i hi => ?_)⟩
          by_cases e : i = j
          · subst e; rw [List.getElem?_set_self (by rw [HL.out]; exact hlt)]; rfl
          · rw [List.getElem?_set_ne (fun e' => e e'.symm)]; exact HJ.out i (by omega)
        case measure => simp [intOf]; omega
      · obtain rfl : j = n := by omega
        go_wp2
        go_ret
        refine ⟨l', by rw [show movesM.cnt l = 2 * l.length from rfl, ← Hn.out]; show Ending.returned (.int .i64 (k0 + 2 * (j : Int))) = _; congr 2 <;> omega, ?_, fun i hi => HJ.out i (by rw [← HL.out]; exact hi), by show 2 * l'.length = 2 * l.length; rw [HL.out, Hn.out], hB⟩
        refine ow_flats cMove (fun x hx => ?_) (by rw [HL.out]; exact hO')
        obtain ⟨i, hi, rfl⟩ := List.getElem_of_mem hx
        have hi' := HJ.out i (by rw [← HL.out]; exact hi)
        rw [List.getElem?_eq_getElem hi] at hi'
        simp only [Option.getD_some] at hi'
        rw [hi']
        have := HL.out
        exact ow_moveE ⟨by constructor <;> simp only <;> omega, by constructor <;> simp only <;> omega⟩

set_option maxHeartbeats 1000000 in
theorem heldMoveS_any (v : Value) (l : List Move) (B : Nat) (k0 : Int) (w : World) (h : movesE.rd w B [v] l) (hm : movesM.held l k0) (h0 : 0 ≤ k0) (h1 : k0 + movesM.cnt l ≤ 4611686018427387904) :
    Calls Tryz.prog 76 #[v, .int .i64 k0] w (Gives (.int .i64 (k0 + movesM.cnt l)) w) := by
  have h1 : k0 + 2 * (l.length : Int) ≤ 4611686018427387904 := by have : movesM.cnt l = 2 * l.length := rfl; omega
  have Hc := Lib.hid (show (movesM.cnt l : Int) = 2 * (l.length : Int) by have : movesM.cnt l = 2 * l.length := rfl; omega)
  obtain ⟨a, cap, rfl, a1, a2, -, a4⟩ := rd_movesE h
  clear h
  obtain ⟨n, hn⟩ : ∃ n, n = l.length := ⟨_, rfl⟩
  rw [← hn] at a1 a4 h1 Hc ⊢
  have Hn := Lib.hid hn; clear hn
  have H4 := Lib.hid a4; clear a4
  have Hm : Hid (∀ i, i < l.length → l[i]?.getD default = ⟨k0 + 2 * (i : Int), k0 + 2 * (i : Int) + 1⟩) := Lib.hid hm
  clear hm
  go_enter Tryz.func76, Tryz.ntmps76
  go_wp2
  go_loopw [1, 5] (fun k i wr => ∃ j : Nat, j ≤ n ∧ i = .int .i64 j ∧ k = .int .i64 (k0 + 2 * (j : Int)) ∧ Below w.heap.size w wr) (fun _ i _ => n - (intOf i).toNat)
  case atStart => exact ⟨0, by omega, rfl, by simp, Below.refl _ _⟩
  case round =>
    obtain ⟨j, hj, rfl, rfl, hB⟩ := hrel
    by_cases hlt : j < n
    · have jn : (j : Int) < n := by omega
      obtain ⟨b, o, rfl, -, ⟨hc0, hc1⟩, -⟩ := H4.out j hlt
      rw [Hm.out j (by rw [← Hn.out]; exact hlt)] at hc0 hc1
      have c10 := (hB.cell (World.block_lt_of_cell? w _ hc0)).trans hc0
      have c11 := (hB.cell (World.block_lt_of_cell? w _ hc1)).trans hc1
      clear hc0 hc1
      dsimp only at c10 c11
      have t0 : ((k0 + 2 * (j : Int)) != (k0 + 2 * (j : Int))) = false := by simp
      have t1 : ((k0 + 2 * (j : Int) + 1) != (k0 + 2 * (j : Int) + 1)) = false := by simp
      go_wp2
      go_roundw
      case rel => exact ⟨j + 1, by omega, by go_num, ret_k (by omega), hB⟩
      case measure => simp [intOf]; omega
    · obtain rfl : j = n := by omega
      go_wp2
      go_ret
      exact ⟨by rw [Hc.out]; rfl, hB⟩

end Go.Proofs.YtcifdkliiljmkaaGreatDoor

/-
  Contracts of the laws' own helpers at one slice type (written by a program of this claim's own, gen_leaf.py).
-/
namespace Go.Proofs.YtcifdkliiljmkaaGreatDoor
open Go.RowKit

set_option maxHeartbeats 400000 in
theorem markMoveSS_any (v : Value) (l : List (List Move)) (fp : List Nat) (k0 : Int) (w : World) (h : movessE.ow w [v] l fp) (hn : fp.Nodup) (h0 : 0 ≤ k0) (h1 : k0 + cntL movesM l ≤ 4611686018427387904) :
    Calls Tryz.prog 44 #[v, .int .i64 k0] w (Marks movessE (listM movesM) [v] l fp k0 w) := by
  have hlen := ow_len h
  obtain ⟨a, cap, rfl⟩ := ow_shape h
  obtain ⟨n, hnl⟩ : ∃ n, n = l.length := ⟨_, rfl⟩
  have hS := Lib.hid (MState.start (M := movesM) (k0 := k0) h)
  rw [← hnl] at hlen hS ⊢
  have Hn := Lib.hid hnl; clear hnl h
  have Hnd := Lib.hid hn; clear hn
  go_enter Tryz.func44, Tryz.ntmps44
  go_wp2
  go_loopw [1, 5] (fun k i wr => ∃ j : Nat, ∃ q : Int, j ≤ n ∧ i = .int .i64 j ∧ k = .int .i64 q ∧ Hid (q = k0 + cntL movesM (l.take j)) ∧ MState movesE 91 movesM l fp (.slice a n cap) k0 w wr j) (fun _ i _ => n - (intOf i).toNat)
  case atStart => exact ⟨0, k0, by omega, rfl, rfl, Lib.hid (by simp [cntL]), hS.out⟩
  case round =>
    obtain ⟨j, q, hj, rfl, rfl, HQ, HS⟩ := hrel
    by_cases hlt : j < n
    · obtain ⟨x, hx⟩ : ∃ x, l[j]? = some x := ⟨_, get_some default (by rw [← Hn.out]; exact hlt)⟩
      obtain ⟨g, cap', vk, f, hv, c1, ho, hf, hstep⟩ := HS.elem rfl Hnd.out hx
      simp only [Value.slice.injEq] at hv
      obtain ⟨rfl, -, rfl⟩ := hv
      have hc : cntL movesM (l.take (j + 1)) = cntL movesM (l.take j) + movesM.cnt x := cntL_take movesM l j x hx
      have hc2 := cntL_take_le movesM l (j + 1)
      have hq0 : 0 ≤ q := by have := HQ.out; omega
      have hq1 : q + movesM.cnt x ≤ 4611686018427387904 := by have := HQ.out; omega
      have HC : Hid (q + (movesM.cnt x : Int) = k0 + cntL movesM (l.take (j + 1))) := Lib.hid (by rw [hc, HQ.out]; omega)
      have HST := Lib.hid hstep; clear hstep hx HS hc hc2
      have HF := Lib.hid hf; clear hf
      go_wp2_with fail
      refine (markMoveS_any _ x f q _ ho hq0 hq1).mono ?_
      rintro e w1 ⟨x', rfl, ho', hm', hc', hb'⟩
      have HS2 := HST.out w1 x' hb' ho' (by rw [← HQ.out]; exact hm') hc'
      clear ho ho' hm' hc' hb'
      generalize q + (movesM.cnt x : Int) = q2 at *
      go_wp2
      go_roundw
      case rel => exact ⟨j + 1, q2, by omega, by go_num, rfl, HC, HS2⟩
      case measure => simp [intOf]; omega
    · obtain rfl : j = n := by omega
      have HQ2 : Hid (q = k0 + cntL movesM l) := Lib.hid (by have := HQ.out; rwa [Hn.out, List.take_length] at this)
      rw [Hn.out] at HS
      go_wp2
      go_ret
      have := HS.done
      rw [← HQ2.out] at this
      rw [Hn.out]
      exact this

set_option maxHeartbeats 400000 in
theorem heldMoveSS_any (v : Value) (l : List (List Move)) (B : Nat) (k0 : Int) (w : World) (hB0 : B ≤ w.heap.size) (h : movessE.rd w B [v] l) (hm : heldL movesM l k0) (h0 : 0 ≤ k0) (h1 : k0 + cntL movesM l ≤ 4611686018427387904) :
    Calls Tryz.prog 45 #[v, .int .i64 k0] w (Gives (.int .i64 (k0 + cntL movesM l)) w) := by
  obtain ⟨a, cap, rfl, a1, a2, -, a4⟩ := rd_slice1 rfl h
  clear h
  obtain ⟨n, hn⟩ : ∃ n, n = l.length := ⟨_, rfl⟩
  rw [← hn] at a1 a4 ⊢
  have Hn := Lib.hid hn; clear hn
  have H4 := Lib.hid a4; clear a4
  have Hm := Lib.hid hm; clear hm
  go_enter Tryz.func45, Tryz.ntmps45
  go_wp2
  go_loopw [1, 5] (fun k i wr => ∃ j : Nat, ∃ q : Int, j ≤ n ∧ i = .int .i64 j ∧ k = .int .i64 q ∧ Hid (q = k0 + cntL movesM (l.take j)) ∧ Below w.heap.size w wr) (fun _ i _ => n - (intOf i).toNat)
  case atStart => exact ⟨0, k0, by omega, rfl, rfl, Lib.hid (by simp [cntL]), Below.refl _ _⟩
  case round =>
    obtain ⟨j, q, hj, rfl, rfl, HQ, hB⟩ := hrel
    by_cases hlt : j < n
    · obtain ⟨b, o, vk, rfl, -, hc, hr⟩ := H4.out j hlt
      have c1 := (hB.cell (World.block_lt_of_cell? w _ hc)).trans hc
      have HR := Lib.hid (movesE.rd_of (hB.mono hB0) hr)
      have HX := Lib.hid (get_some default (l := l) (k := j) (by rw [← Hn.out]; exact hlt))
      clear hc hr
      generalize l[j]?.getD default = x at *
      have hc : cntL movesM (l.take (j + 1)) = cntL movesM (l.take j) + movesM.cnt x := cntL_take movesM l j x HX.out
      have hc2 := cntL_take_le movesM l (j + 1)
      have hq0 : 0 ≤ q := by have := HQ.out; omega
      have hq1 : q + movesM.cnt x ≤ 4611686018427387904 := by have := HQ.out; omega
      have HC : Hid (q + (movesM.cnt x : Int) = k0 + cntL movesM (l.take (j + 1))) := Lib.hid (by rw [hc, HQ.out]; omega)
      have HMx := Lib.hid (show movesM.held x q by rw [HQ.out]; exact heldL_take movesM l j k0 x HX.out Hm.out)
      clear hc hc2
      go_wp2_with fail
      refine (heldMoveS_any _ x B q _ HR.out HMx.out hq0 hq1).mono ?_
      rintro e w1 ⟨rfl, hbl⟩
      have B1 := hB.trans (hbl.mono hB.size)
      have ht : ¬ q + (movesM.cnt x : Int) < 0 := by omega
      clear hbl hB
      generalize q + (movesM.cnt x : Int) = q2 at *
      go_wp2
      go_roundw
      case rel => exact ⟨j + 1, q2, by omega, by go_num, rfl, HC, B1⟩
      case measure => simp [intOf]; omega
    · obtain rfl : j = n := by omega
      have HQ2 : Hid (q = k0 + cntL movesM l) := Lib.hid (by have := HQ.out; rwa [Hn.out, List.take_length] at this)
      go_wp2
      go_ret
      exact ⟨by rw [← HQ2.out]; rfl, hB⟩

end Go.Proofs.YtcifdkliiljmkaaGreatDoor

/-
  Two small laws for the marks of structs.
-/
namespace Go.Proofs.YtcifdkliiljmkaaGreatDoor
open Go.RowKit

theorem But.mono {fp fq : List Nat} {w w' : World} (h : But fp w w') (hs : ∀ b, b ∈ fp → b ∈ fq) : But fq w w' :=
  ⟨h.os, h.tape, h.output, h.size, fun k hk hn => h.block k hk (fun hp => hn (hs k hp))⟩

theorem ret_k_ret {a b : Int} (h : a = b) : Ending.returned (Value.int .i64 a) = Ending.returned (Value.int .i64 b) := by rw [h]

end Go.Proofs.YtcifdkliiljmkaaGreatDoor
