/-
  Plain lemmas: all that a call holds of its own in one hypothesis ('Star': the blocks of its parts lie apart from each other), what each step does to it, and append (written in part by a program of this claim's own, gen_star.py).
-/
import Derived.Test.YtbiagkbjhdidjaaDoorAppK
import Derived.Test.YtbiagkbjhdidjaaDoorLeafAK
namespace Go.Proofs.YtbiagkbjhdidjaaDoor
open Go.RowKit

/-- No block in common. -/
def Dj (f h : List Nat) : Prop := ∀ b, b ∈ f → b ∉ h

theorem Dj.symm {f h : List Nat} (d : Dj f h) : Dj h f := fun b hb hf => d b hf hb
theorem Dj.nodup {f h : List Nat} (d : Dj f h) (nf : f.Nodup) (nh : h.Nodup) : (f ++ h).Nodup := by
  rw [List.nodup_append]
  exact ⟨nf, nh, fun a ha b hb e => d a ha (e ▸ hb)⟩

/-- A part: what holds of it in a world, with its blocks. -/
structure Ob where
  holds : World → List Nat → Prop
  frame : ∀ {w w' : World} {fp : List Nat}, (∀ b, b ∈ fp → w'.heap[b]? = w.heap[b]?) → holds w fp → holds w' fp

/-- A block with these cells. -/
def oB (b : Nat) (cs : List Value) (ty : TypeId) : Ob := ⟨fun w fp => Blk w b cs ty ∧ fp = [b], fun hf h => ⟨h.1.same (hf b (by rw [h.2]; simp)), h.2⟩⟩

/-- Cells that stand for a value of one's own. -/
def oE {α : Type} (E : Enc α) (cs : List Value) (a : α) : Ob := ⟨fun w fp => E.ow w cs a fp, fun hf h => E.ow_frame hf h⟩

/-- What a call that began in w0 holds of its own in w. -/
def Star (w0 w : World) (ps : List Ob) : Prop :=
  Below w0.heap.size w0 w ∧ ∃ fp : Nat → List Nat, (∀ i P, ps[i]? = some P → P.holds w (fp i) ∧ (fp i).Nodup ∧ ∀ b, b ∈ fp i → w0.heap.size ≤ b ∧ b < w.heap.size) ∧
    ∀ i j, i ≠ j → i < ps.length → j < ps.length → Dj (fp i) (fp j)

section
variable {w0 w w' : World} {ps : List Ob}

theorem Star.nil (w : World) : Star w w [] := ⟨Below.refl _ _, fun _ => [], fun i P h => by simp at h, fun i j _ hi => by simp at hi⟩

theorem Star.below (S : Star w0 w ps) : Below w0.heap.size w0 w := S.1

theorem Star.step (S : Star w0 w ps) (hb : Below w.heap.size w w') : Star w0 w' ps := by
  obtain ⟨B, fp, h, d⟩ := S
  refine ⟨B.trans (hb.mono B.size), fp, fun i P hP => ?_, d⟩
  obtain ⟨h1, h2, h3⟩ := h i P hP
  exact ⟨P.frame (fun b hm => hb.block b (h3 b hm).2) h1, h2, fun b hm => ⟨(h3 b hm).1, Nat.lt_of_lt_of_le (h3 b hm).2 hb.size⟩⟩

theorem Star.push (S : Star w0 w ps) {P : Ob} {f : List Nat} (hb : Below w.heap.size w w') (hP : P.holds w' f) (nd : f.Nodup) (lo : ∀ b, b ∈ f → w.heap.size ≤ b) (hi : ∀ b, b ∈ f → b < w'.heap.size) : Star w0 w' (P :: ps) := by
  obtain ⟨B, fp, h, d⟩ := S
  have hs := B.size
  refine ⟨B.trans (hb.mono hs), fun i => match i with | 0 => f | i + 1 => fp i, fun i Q hQ => ?_, fun i j hij hi hj => ?_⟩
  · cases i with
    | zero =>
      obtain rfl : P = Q := by simpa using hQ
      exact ⟨hP, nd, fun b hm => ⟨Nat.le_trans hs (lo b hm), hi b hm⟩⟩
    | succ i =>
      obtain ⟨h1, h2, h3⟩ := h i Q (by simpa using hQ)
      exact ⟨Q.frame (fun b hm => hb.block b (h3 b hm).2) h1, h2, fun b hm => ⟨(h3 b hm).1, Nat.lt_of_lt_of_le (h3 b hm).2 hb.size⟩⟩
  · have key : ∀ i, i < ps.length → Dj f (fp i) := by
      intro i hi b hb1 hb2
      have := lo b hb1
      have := ((h i _ (List.getElem?_eq_getElem hi)).2.2 b hb2).2
      omega
    cases i with
    | zero =>
      cases j with
      | zero => exact absurd rfl hij
      | succ j => exact key j (by simpa using hj)
    | succ i =>
      cases j with
      | zero => exact (key i (by simpa using hi)).symm
      | succ j => exact d i j (by omega) (by simpa using hi) (by simpa using hj)

theorem Star.alloc (S : Star w0 w ps) {cs : Array Value} {ty : TypeId} : Star w0 (w.alloc (.cells cs ty)) (oB w.heap.size cs.toList ty :: ps) :=
  S.push (f := [w.heap.size]) ((Below.refl _ _).alloc (Nat.le_refl _) _) ⟨Blk.new w cs ty, rfl⟩ (by simp) (fun b hb => by have e : b = w.heap.size := by simpa using hb
                                                                                                                          omega) (fun b hb => by have e : b = w.heap.size := by simpa using hb
                                                                                                                                                 rw [World.size_alloc]; omega)

/-- A call's result, of new memory. -/
theorem Star.made {α : Type} {E : Enc α} {cs : List Value} {a : α} {f : List Nat} (S : Star w0 w ps) (o : E.ow w' cs a f) (nd : f.Nodup) (lo : ∀ b, b ∈ f → w.heap.size ≤ b) (hb : Below w.heap.size w w') : Star w0 w' (oE E cs a :: ps) :=
  S.push (P := oE E cs a) hb o nd lo (E.ow_lt o)

theorem Star.flat {α : Type} {E : Enc α} {cs : List Value} {a : α} (S : Star w0 w ps) (o : E.ow w cs a []) : Star w0 w (oE E cs a :: ps) :=
  S.push (P := oE E cs a) (Below.refl _ _) o List.nodup_nil (fun b hb => by cases hb) (fun b hb => by cases hb)

/-- Some of the parts, in another order. -/
theorem Star.sel (S : Star w0 w ps) (is : List Nat) (hn : is.Nodup := by decide) (hl : ∀ i, i ∈ is → i < ps.length := by simp) : Star w0 w (is.filterMap fun i => ps[i]?) := by
  obtain ⟨B, fp, h, d⟩ := S
  have hf : ∀ is : List Nat, (∀ i, i ∈ is → i < ps.length) → (is.filterMap fun i => ps[i]?).length = is.length ∧ ∀ k : Nat, (is.filterMap fun i => ps[i]?)[k]? = (is[k]?).bind fun i => ps[i]? := by
    intro is
    induction is with
    | nil => intro _; exact ⟨rfl, fun k => by simp⟩
    | cons i is ih =>
      intro hl
      obtain ⟨i1, i2⟩ := ih (fun j hj => hl j (by simp [hj]))
      have hi := hl i (by simp)
      rw [List.filterMap_cons, List.getElem?_eq_getElem hi]
      refine ⟨by simp [i1], fun k => ?_⟩
      cases k with
      | zero => simp [List.getElem?_eq_getElem hi]
      | succ k => simpa using i2 k
  obtain ⟨e1, e2⟩ := hf is hl
  refine ⟨B, fun k => fp (is[k]?.getD 0), fun k P hP => ?_, fun i j hij hi hj => ?_⟩
  · rw [e2] at hP
    cases hk : is[k]? with
    | none => rw [hk] at hP; cases hP
    | some i => rw [hk] at hP; simp only [hk, Option.getD_some]; exact h i P hP
  · rw [e1] at hi hj
    have hi' := hl _ (List.getElem_mem hi)
    have hj' := hl _ (List.getElem_mem hj)
    show Dj (fp (is[i]?.getD 0)) (fp (is[j]?.getD 0))
    rw [List.getElem?_eq_getElem hi, List.getElem?_eq_getElem hj]
    refine d _ _ (fun e => hij ?_) hi' hj'
    have hp := List.pairwise_iff_getElem.1 hn
    rcases Nat.lt_trichotomy i j with hlt | hlt | hlt
    · exact absurd (by simpa using e) (hp i j hi hj hlt)
    · exact hlt
    · exact absurd (by simpa using e.symm) (hp j i hj hi hlt)

/-- One part turns into another; all others are as they were. -/
theorem Star.upd {P P' : Ob} (S : Star w0 w (P :: ps))
    (h : ∀ f, P.holds w f → f.Nodup → (∀ b, b ∈ f → b < w.heap.size) → ∃ f', P'.holds w' f' ∧ f'.Nodup ∧ (∀ b, b ∈ f' → b ∈ f ∨ w.heap.size ≤ b) ∧ (∀ b, b ∈ f' → b < w'.heap.size) ∧ But f w w') : Star w0 w' (P' :: ps) := by
  obtain ⟨B, fp, hh, d⟩ := S
  obtain ⟨p1, p2, p3⟩ := hh 0 P rfl
  obtain ⟨f', q1, q2, q3, q4, bt⟩ := h (fp 0) p1 p2 (fun b hb => (p3 b hb).2)
  have hs := B.size
  have hB : Below w0.heap.size w0 w' := B.trans (bt.below (fun b hb => (p3 b hb).1) hs)
  have hd0 : ∀ i, i < ps.length → Dj f' (fp (i + 1)) := by
    intro i hi b hb1 hb2
    rcases q3 b hb1 with h1 | h1
    · exact d 0 (i + 1) (by omega) (by simp) (by simpa using hi) b h1 hb2
    · have := ((hh (i + 1) _ (by rw [List.getElem?_cons_succ]; exact List.getElem?_eq_getElem hi)).2.2 b hb2).2
      omega
  refine ⟨hB, fun i => match i with | 0 => f' | i + 1 => fp (i + 1), fun i Q hQ => ?_, fun i j hij hi hj => ?_⟩
  · cases i with
    | zero =>
      obtain rfl : P' = Q := by simpa using hQ
      refine ⟨q1, q2, fun b hm => ⟨?_, q4 b hm⟩⟩
      rcases q3 b hm with h1 | h1
      · exact (p3 b h1).1
      · omega
    | succ i =>
      have hQ' : ps[i]? = some Q := by simpa using hQ
      obtain ⟨h1, h2, h3⟩ := hh (i + 1) Q hQ'
      have hil := (List.getElem?_eq_some_iff.1 hQ').1
      refine ⟨Q.frame (fun b hm => bt.block b (h3 b hm).2 (fun hf => ?_)) h1, h2, fun b hm => ⟨(h3 b hm).1, Nat.lt_of_lt_of_le (h3 b hm).2 bt.size⟩⟩
      exact d 0 (i + 1) (by omega) (by simp) (by simpa using hil) b hf hm
  · cases i with
    | zero =>
      cases j with
      | zero => exact absurd rfl hij
      | succ j => exact hd0 j (by simpa using hj)
    | succ i =>
      cases j with
      | zero => exact (hd0 i (by simpa using hi)).symm
      | succ j => exact d (i + 1) (j + 1) (by omega) hi hj

/-- Two parts turn into one. -/
theorem Star.join {P Q R : Ob} (S : Star w0 w (P :: Q :: ps)) (h : ∀ f g, P.holds w f → Q.holds w g → R.holds w (f ++ g)) : Star w0 w (R :: ps) := by
  obtain ⟨B, fp, hh, d⟩ := S
  obtain ⟨p1, p2, p3⟩ := hh 0 P rfl
  obtain ⟨q1, q2, q3⟩ := hh 1 Q rfl
  have hd0 : ∀ i, i < ps.length → Dj (fp 0 ++ fp 1) (fp (i + 2)) := by
    intro i hi b hb1 hb2
    rcases List.mem_append.1 hb1 with h1 | h1
    · exact d 0 (i + 2) (by omega) (by simp) (by simpa using hi) b h1 hb2
    · exact d 1 (i + 2) (by omega) (by simp) (by simpa using hi) b h1 hb2
  refine ⟨B, fun i => match i with | 0 => fp 0 ++ fp 1 | i + 1 => fp (i + 2), fun i Q hQ => ?_, fun i j hij hi hj => ?_⟩
  · cases i with
    | zero =>
      obtain rfl : R = Q := by simpa using hQ
      refine ⟨h _ _ p1 q1, (d 0 1 (by omega) (by simp) (by simp)).nodup p2 q2, fun b hm => ?_⟩
      rcases List.mem_append.1 hm with h1 | h1
      · exact p3 b h1
      · exact q3 b h1
    | succ i => exact hh (i + 2) Q (by simpa using hQ)
  · cases i with
    | zero =>
      cases j with
      | zero => exact absurd rfl hij
      | succ j => exact hd0 j (by simpa using hj)
    | succ i =>
      cases j with
      | zero => exact (hd0 i (by simpa using hi)).symm
      | succ j => exact d (i + 2) (j + 2) (by omega) (by simpa using hi) (by simpa using hj)

theorem Star.set {b : Nat} {cs : List Value} {ty : TypeId} (S : Star w0 w (oB b cs ty :: ps)) (i : Nat) (v : Value) : Star w0 (w.setCell ⟨b, i, none⟩ v) (oB b (cs.set i v) ty :: ps) :=
  S.upd fun f hf _ hl => ⟨f, ⟨hf.1.set i v, hf.2⟩, by rw [hf.2]; simp, fun b hb => .inl hb, fun b hb => by simpa using hl b hb, by rw [hf.2]; exact (But.refl _ _).setCell (by simp) _⟩

theorem Star.set4 {b : Nat} {cs : List Value} {ty : TypeId} {v0 v1 v2 v3 : Value} (S : Star w0 w (oB b cs ty :: ps)) (hl : cs.length = 4) (hW : (((w.setCell ⟨b, 0, none⟩ v0).setCell ⟨b, 1, none⟩ v1).setCell ⟨b, 2, none⟩ v2).setCell ⟨b, 3, none⟩ v3 = w') :
    Star w0 w' (oB b [v0, v1, v2, v3] ty :: ps) := by
  subst hW
  match cs, hl with
  | [_, _, _, _], _ => exact (((S.set 0 v0).set 1 v1).set 2 v2).set 3 v3

theorem Star.set3 {b : Nat} {cs : List Value} {ty : TypeId} {v0 v1 v2 : Value} (S : Star w0 w (oB b cs ty :: ps)) (hl : cs.length = 3) (hW : ((w.setCell ⟨b, 0, none⟩ v0).setCell ⟨b, 1, none⟩ v1).setCell ⟨b, 2, none⟩ v2 = w') :
    Star w0 w' (oB b [v0, v1, v2] ty :: ps) := by
  subst hW
  match cs, hl with
  | [_, _, _], _ => exact ((S.set 0 v0).set 1 v1).set 2 v2

theorem Star.blk (S : Star w0 w ps) (n : Nat) {b : Nat} {cs : List Value} {ty : TypeId} (h : ps[n]? = some (oB b cs ty)) : Blk w b cs ty := by
  obtain ⟨_, fp, hh, _⟩ := S
  exact (hh n _ h).1.1

theorem Star.own (S : Star w0 w ps) (n : Nat) {α : Type} {E : Enc α} {cs : List Value} {a : α} (h : ps[n]? = some (oE E cs a)) : ∃ f, E.ow w cs a f := by
  obtain ⟨_, fp, hh, _⟩ := S
  exact ⟨fp n, (hh n _ h).1⟩

theorem Star.rd (S : Star w0 w ps) (n : Nat) {α : Type} {E : Enc α} {cs : List Value} {a : α} (h : ps[n]? = some (oE E cs a)) : E.rd w w.heap.size cs a := by
  obtain ⟨f, o⟩ := S.own n h
  exact E.rd_ow o

theorem Star.slc (S : Star w0 w ps) (n : Nat) {α : Type} {E : Enc α} {t : TypeId} {v : Value} {a : List α} (h : ps[n]? = some (oE (sliceE E t) [v] a)) : ∃ sa sn sc, v = .slice sa sn sc := by
  obtain ⟨f, o⟩ := S.own n h
  exact ow_slice o

/-- What has just been written into a block, as a slice. -/
theorem Star.lit {α : Type} {E : Enc α} {ty : TypeId} {g : Nat} {vs : List Value} (S : Star w0 w (oB g vs ty :: ps)) (l : List α) (f : α → Value) (hv : vs = l.map f) (hE : E.size = 1) (hf : ∀ x, x ∈ l → E.ow w [f x] x []) (hl : l.length ≤ maxLen) :
    Star w0 w (oE (sliceE E ty) [.slice (some ⟨g, 0, none⟩) l.length l.length] l :: ps) :=
  S.upd fun q hq _ hlt => ⟨q, by rw [hq.2]; exact ow_lit f hE hf (hv ▸ hq.1) hl, by rw [hq.2]; simp, fun b hb => .inl hb, hlt, But.refl _ _⟩

theorem Star.lit0 {α : Type} {E : Enc α} {ty : TypeId} {g : Nat} (S : Star w0 w (oB g [] ty :: ps)) : Star w0 w (oE (sliceE E ty) [.slice (some ⟨g, 0, none⟩) 0 0] ([] : List α) :: ps) :=
  S.upd fun q hq _ hlt => ⟨q, by rw [hq.2]; exact ⟨_, [], [], rfl, .nil, ⟨by simp, .inr ⟨g, 0, #[], rfl, Nat.zero_le _, hq.1, Nat.le_refl _, Nat.zero_le _, by simp, by simp⟩⟩, by simp [Value.ownBlock]⟩, by rw [hq.2]; simp, fun b hb => .inl hb, hlt, But.refl _ _⟩

theorem Star.int (S : Star w0 w ps) {x : Int} (h : -9223372036854775808 ≤ x ∧ x ≤ 9223372036854775807) : Star w0 w (oE intE [Value.int .i64 x] x :: ps) := S.flat ⟨⟨rfl, h⟩, rfl⟩
theorem Star.bool (S : Star w0 w ps) {x : Bool} : Star w0 w (oE boolE [Value.bool x] x :: ps) := S.flat ⟨rfl, rfl⟩
theorem Star.str (S : Star w0 w ps) {x : ByteArray} (h : x.size ≤ maxLen) : Star w0 w (oE strE [Value.string x] x :: ps) := S.flat ⟨⟨rfl, h⟩, rfl⟩
theorem Star.move (S : Star w0 w ps) {x y : Int} (h : -9223372036854775808 ≤ x ∧ x ≤ 9223372036854775807) (k : -9223372036854775808 ≤ y ∧ y ≤ 9223372036854775807) : Star w0 w (oE moveE [Value.int .i64 x, Value.int .i64 y] ⟨x, y⟩ :: ps) :=
  S.flat ⟨[_], [_], [], [], rfl, rfl, ⟨⟨rfl, h⟩, rfl⟩, ⟨⟨rfl, k⟩, rfl⟩⟩
theorem Star.pmove (S : Star w0 w ps) {x y z : Int} (h : -9223372036854775808 ≤ x ∧ x ≤ 9223372036854775807) (k : -9223372036854775808 ≤ y ∧ y ≤ 9223372036854775807) (m : -9223372036854775808 ≤ z ∧ z ≤ 9223372036854775807) :
    Star w0 w (oE pmoveE [Value.int .i64 x, Value.int .i64 y, Value.int .i64 z] ⟨x, y, z⟩ :: ps) :=
  S.flat ⟨[_], [_, _], [], [], rfl, rfl, ⟨⟨rfl, h⟩, rfl⟩, ⟨[_], [_], [], [], rfl, rfl, ⟨⟨rfl, k⟩, rfl⟩, ⟨⟨rfl, m⟩, rfl⟩⟩⟩
theorem Star.nils {α : Type} (E : Enc α) (ty : TypeId) (S : Star w0 w ps) : Star w0 w (oE (sliceE E ty) [.slice none 0 0] [] :: ps) := S.flat (ow_nil E ty w)

/-- Two fields side by side. -/
theorem Star.pair {α β : Type} {E : Enc α} {F : Enc β} {c1 c2 : List Value} {x : α} {y : β} (S : Star w0 w (oE E c1 x :: oE F c2 y :: ps)) : Star w0 w (oE (pairE E F) (c1 ++ c2) (x, y) :: ps) :=
  S.join fun f g h1 h2 => ⟨c1, c2, f, g, rfl, rfl, h1, h2⟩

theorem Star.via {α β : Type} {E : Enc β} {F : α → β} {cs : List Value} {y : β} (S : Star w0 w (oE E cs y :: ps)) (x : α) (h : F x = y) : Star w0 w (oE (viaE E F) cs x :: ps) :=
  S.upd fun q hq hn hlt => ⟨q, (by show E.ow w cs (F x) q; rw [h]; exact hq), hn, fun b hb => .inl hb, hlt, But.refl _ _⟩

/-- What is handed back. -/
theorem Star.out {α : Type} {E : Enc α} {cs : List Value} {a : α} (S : Star w0 w (oE E cs a :: ps)) : ∃ f, E.ow w cs a f ∧ f.Nodup ∧ ∀ b, b ∈ f → w0.heap.size ≤ b := by
  obtain ⟨_, fp, hh, _⟩ := S
  obtain ⟨h1, h2, h3⟩ := hh 0 _ rfl
  exact ⟨_, h1, h2, fun b hb => (h3 b hb).1⟩

theorem Star.done {α : Type} {E : Enc α} {cs : List Value} {x : α × Int} (S : Star w0 w (oE E cs x.1 :: ps)) : MakesC E x w0 (.returned (.tuple #[.agg cs.toArray, .int .i64 x.2])) w := by
  obtain ⟨f, h1, h2, h3⟩ := S.out
  exact ⟨cs, f, rfl, h1, h2, h3, S.below⟩

theorem Star.done1 {α : Type} {E : Enc α} {v : Value} {x : α} (S : Star w0 w (oE E [v] x :: ps)) : Makes E id x w0 (.returned v) w := by
  obtain ⟨f, h1, h2, h3⟩ := S.out
  exact ⟨v, f, rfl, h1, h2, h3, S.below⟩
end

theorem cell_a1 {w : World} {cs : List Value} {ty : TypeId} : ∀ j u, cs[j]? = some u → (w.alloc (.cells cs.toArray ty)).cell? ⟨w.heap.size, j, none⟩ = some u := fun j _ hu => (Blk.new w cs.toArray ty).cell j (by simpa using hu)
theorem cell_a2 {w : World} {o : Obj} {cs : List Value} {ty : TypeId} : ∀ j u, cs[j]? = some u → ((w.alloc o).alloc (.cells cs.toArray ty)).cell? ⟨w.heap.size + 1, j, none⟩ = some u := fun j _ hu => by
  have := (Blk.new (w.alloc o) cs.toArray ty).cell j (v := _) (by simpa using hu)
  simpa using this
theorem cell_a3 {w : World} {o p : Obj} {cs : List Value} {ty : TypeId} : ∀ j u, cs[j]? = some u → (((w.alloc o).alloc p).alloc (.cells cs.toArray ty)).cell? ⟨w.heap.size + 1 + 1, j, none⟩ = some u := fun j _ hu => by
  have := (Blk.new ((w.alloc o).alloc p) cs.toArray ty).cell j (v := _) (by simpa using hu)
  simpa using this

theorem cell_s1 {w : World} {a : Addr} {v : Value} {cs : List Value} {ty : TypeId} : ∀ j u, cs[j]? = some u → ((w.setCell a v).alloc (.cells cs.toArray ty)).cell? ⟨w.heap.size, j, none⟩ = some u := fun j _ hu => by
  have := (Blk.new (w.setCell a v) cs.toArray ty).cell j (v := _) (by simpa using hu)
  simpa using this

theorem int_in (x : Int) (h : -9223372036854775808 ≤ x ∧ x ≤ 9223372036854775807) (w : World) : ∀ y, y ∈ [x] → intE.ow w [Value.int .i64 y] y [] := fun y hy => by
  have e : y = x := by simpa using hy
  subst e; exact ⟨⟨rfl, h⟩, rfl⟩
theorem int_in2 (x y : Int) (h : -9223372036854775808 ≤ x ∧ x ≤ 9223372036854775807) (k : -9223372036854775808 ≤ y ∧ y ≤ 9223372036854775807) (w : World) : ∀ z, z ∈ [x, y] → intE.ow w [Value.int .i64 z] z [] := fun z hz => by
  rcases List.mem_cons.1 hz with e | e
  · subst e; exact ⟨⟨rfl, h⟩, rfl⟩
  · have e : z = y := by simpa using e
    subst e; exact ⟨⟨rfl, k⟩, rfl⟩

theorem one_mem2 {v u : Value} (h : v.oneCell' = true) (k : u.oneCell' = true) : ∀ x, x ∈ [v, u] → x.oneCell' = true := by
  intro x hx
  rcases List.mem_cons.1 hx with e | e
  · rw [e]; exact h
  · exact one_mem k x e
theorem one_mem3 {v u t : Value} (h : v.oneCell' = true) (k : u.oneCell' = true) (m : t.oneCell' = true) : ∀ x, x ∈ [v, u, t] → x.oneCell' = true := by
  intro x hx
  rcases List.mem_cons.1 hx with e | e
  · rw [e]; exact h
  · exact one_mem2 k m x e

theorem take_range_map {α : Type} (f : Nat → α) (n k : Nat) (h : k < n) : ((List.range n).map f).take (k + 1) = ((List.range n).map f).take k ++ [f k] := by
  rw [List.take_succ_eq_append_getElem (by simpa using h)]
  simp

theorem take_range_all {α : Type} (f : Nat → α) (n : Nat) : ((List.range n).map f).take n = (List.range n).map f := List.take_of_length_le (by simp)

theorem take_range_len {α : Type} (f : Nat → α) (n k : Nat) (h : k ≤ n) : (((List.range n).map f).take k).length = k := by simp; omega

theorem take_map_succ {α β : Type} (d : α) (f : α → β) (l : List α) (k : Nat) (h : k < l.length) : (l.take (k + 1)).map f = (l.take k).map f ++ [f (l[k]?.getD d)] := by
  rw [List.take_succ_eq_append_getElem h, List.map_append]
  simp [List.getElem?_eq_getElem h]

theorem sum_map_le {α : Type} (f : α → Nat) (c : Nat) (l : List α) (h : ∀ x, x ∈ l → f x ≤ c) : (l.map f).sum ≤ l.length * c := by
  induction l with
  | nil => simp
  | cons a l ih =>
    rw [List.map_cons, List.sum_cons, List.length_cons, Nat.succ_mul]
    have := h a (by simp); have := ih (fun x hx => h x (by simp [hx])); omega

/-- append of one element, itself a part, to a slice of Int. -/
theorem st1_Int64S {w0 w : World} {ps : List Ob} {ops : Array Oper} {rest : List Oper} {o : Oper} {a : Act} {Q : Exit → Act → World → Prop} {s x : Operand} {v : Value} {l : List (Int)} {b c : Nat} {y : Int} {cs : List Value}
    (S : Star w0 w (oE (sliceE intE 2) [v] l :: oE intE cs y :: ps)) (hgd : o.guard = none)
    (ho : o.op = .call { callee := .builtin .append, args := #[s, x], argTypes := #[58, 58] }) (hv : a.eval s = v)
    (hx : a.eval x = .slice (some ⟨b, 0, none⟩) 1 c) (hc : ∀ j u, cs[j]? = some u → w.cell? ⟨b, j, none⟩ = some u) (h1 : ∀ u, u ∈ cs → u.oneCell' = true) (hlen : l.length ≤ 1000000000000)
    (h : ∀ sa sn sc w', Star w0 w' (oE (sliceE intE 2) [.slice sa sn sc] (l ++ [y]) :: ps) → wpList Tryd.prog ops Q rest (a.put o.dst (.slice sa sn sc)) w') : wpList Tryd.prog ops Q (o :: rest) a w := by
  obtain ⟨B, fp, hh, d⟩ := S
  obtain ⟨p1, p2, p3⟩ := hh 0 _ rfl
  obtain ⟨q1, q2, q3⟩ := hh 1 _ rfl
  have d01 := d 1 0 (by omega) (by simp) (by simp)
  refine app1_Int64S hgd s x ho hv p1 p2 hx hc h1 q1 q2 d01 hlen (fun v' w' fp' k1 k2 k3 k4 => ?_)
  obtain ⟨sa, sn, sc, rfl⟩ := ow_slice k1
  refine h sa sn sc w' ⟨B.trans (k4.below (fun b hb => (p3 b hb).1) B.size), fun i => match i with | 0 => fp' | i + 1 => fp (i + 2), fun i Q hQ => ?_, fun i j hij hi hj => ?_⟩
  · cases i with
    | zero =>
      obtain rfl : _ = Q := by simpa using hQ
      refine ⟨k1, k2, fun b hm => ⟨?_, Enc.ow_lt _ k1 b hm⟩⟩
      rcases k3 b hm with h1 | h1 | h1
      · exact (p3 b h1).1
      · exact (q3 b h1).1
      · have := B.size; omega
    | succ i =>
      have hQ' : ps[i]? = some Q := by simpa using hQ
      obtain ⟨h1, h2, h3⟩ := hh (i + 2) Q hQ'
      have hil := (List.getElem?_eq_some_iff.1 hQ').1
      refine ⟨Q.frame (fun b hm => k4.block b (h3 b hm).2 (fun hf => ?_)) h1, h2, fun b hm => ⟨(h3 b hm).1, Nat.lt_of_lt_of_le (h3 b hm).2 k4.size⟩⟩
      exact d 0 (i + 2) (by omega) (by simp) (by simpa using hil) b hf hm
  · have hd0 : ∀ i, i < ps.length → Dj fp' (fp (i + 2)) := by
      intro i hi b hb1 hb2
      rcases k3 b hb1 with h1 | h1 | h1
      · exact d 0 (i + 2) (by omega) (by simp) (by simpa using hi) b h1 hb2
      · exact d 1 (i + 2) (by omega) (by simp) (by simpa using hi) b h1 hb2
      · have := ((hh (i + 2) _ (by rw [List.getElem?_cons_succ, List.getElem?_cons_succ]; exact List.getElem?_eq_getElem hi)).2.2 b hb2).2
        omega
    cases i with
    | zero =>
      cases j with
      | zero => exact absurd rfl hij
      | succ j => exact hd0 j (by simpa using hj)
    | succ i =>
      cases j with
      | zero => exact (hd0 i (by simpa using hi)).symm
      | succ j => exact d (i + 2) (j + 2) (by omega) (by simpa using hi) (by simpa using hj)

/-- append of several elements that lead nowhere. -/
theorem stS_Int64S {w0 w : World} {ps : List Ob} {ops : Array Oper} {rest : List Oper} {o : Oper} {a : Act} {Q : Exit → Act → World → Prop} {s x : Operand} {v : Value} {l : List (Int)} {ys : List (Int)} {css : List (List Value)} {fys : List (List Nat)}
    (S : Star w0 w (oE (sliceE intE 2) [v] l :: ps)) (hgd : o.guard = none)
    (ho : o.op = .call { callee := .builtin .append, args := #[s, x], argTypes := #[58, 58] }) (hv : a.eval s = v)
    (hys : OwAll (intE) w ys css fys) (hfy : fys.flatten = []) (hs : SrcS w (intE).size (a.eval x) ys.length css.flatten) (hlen : l.length + ys.length ≤ 1000000000000)
    (h : ∀ sa sn sc w', Star w0 w' (oE (sliceE intE 2) [.slice sa sn sc] (l ++ ys) :: ps) → wpList Tryd.prog ops Q rest (a.put o.dst (.slice sa sn sc)) w') : wpList Tryd.prog ops Q (o :: rest) a w := by
  obtain ⟨B, fp, hh, d⟩ := S
  obtain ⟨p1, p2, p3⟩ := hh 0 _ rfl
  refine appS_Int64S hgd s x ho hv p1 hys hs (by rw [hfy, List.append_nil]; exact p2) hlen (fun v' w' fp' k1 k2 k3 k4 => ?_)
  rw [hfy] at k3
  obtain ⟨sa, sn, sc, rfl⟩ := ow_slice k1
  refine h sa sn sc w' ⟨B.trans (k4.below (fun b hb => (p3 b hb).1) B.size), fun i => match i with | 0 => fp' | i + 1 => fp (i + 1), fun i Q hQ => ?_, fun i j hij hi hj => ?_⟩
  · cases i with
    | zero =>
      obtain rfl : _ = Q := by simpa using hQ
      refine ⟨k1, k2, fun b hm => ⟨?_, Enc.ow_lt _ k1 b hm⟩⟩
      rcases k3 b hm with h1 | h1 | h1
      · exact (p3 b h1).1
      · cases h1
      · have := B.size; omega
    | succ i =>
      have hQ' : ps[i]? = some Q := by simpa using hQ
      obtain ⟨h1, h2, h3⟩ := hh (i + 1) Q hQ'
      have hil := (List.getElem?_eq_some_iff.1 hQ').1
      refine ⟨Q.frame (fun b hm => k4.block b (h3 b hm).2 (fun hf => ?_)) h1, h2, fun b hm => ⟨(h3 b hm).1, Nat.lt_of_lt_of_le (h3 b hm).2 k4.size⟩⟩
      exact d 0 (i + 1) (by omega) (by simp) (by simpa using hil) b hf hm
  · have hd0 : ∀ i, i < ps.length → Dj fp' (fp (i + 1)) := by
      intro i hi b hb1 hb2
      rcases k3 b hb1 with h1 | h1 | h1
      · exact d 0 (i + 1) (by omega) (by simp) (by simpa using hi) b h1 hb2
      · cases h1
      · have := ((hh (i + 1) _ (by rw [List.getElem?_cons_succ]; exact List.getElem?_eq_getElem hi)).2.2 b hb2).2
        omega
    cases i with
    | zero =>
      cases j with
      | zero => exact absurd rfl hij
      | succ j => exact hd0 j (by simpa using hj)
    | succ i =>
      cases j with
      | zero => exact (hd0 i (by simpa using hi)).symm
      | succ j => exact d (i + 1) (j + 1) (by omega) (by simpa using hi) (by simpa using hj)

/-- append of one element, itself a part, to a slice of ByteArray. -/
theorem st1_StringS {w0 w : World} {ps : List Ob} {ops : Array Oper} {rest : List Oper} {o : Oper} {a : Act} {Q : Exit → Act → World → Prop} {s x : Operand} {v : Value} {l : List (ByteArray)} {b c : Nat} {y : ByteArray} {cs : List Value}
    (S : Star w0 w (oE (sliceE strE 9) [v] l :: oE strE cs y :: ps)) (hgd : o.guard = none)
    (ho : o.op = .call { callee := .builtin .append, args := #[s, x], argTypes := #[64, 64] }) (hv : a.eval s = v)
    (hx : a.eval x = .slice (some ⟨b, 0, none⟩) 1 c) (hc : ∀ j u, cs[j]? = some u → w.cell? ⟨b, j, none⟩ = some u) (h1 : ∀ u, u ∈ cs → u.oneCell' = true) (hlen : l.length ≤ 1000000000000)
    (h : ∀ sa sn sc w', Star w0 w' (oE (sliceE strE 9) [.slice sa sn sc] (l ++ [y]) :: ps) → wpList Tryd.prog ops Q rest (a.put o.dst (.slice sa sn sc)) w') : wpList Tryd.prog ops Q (o :: rest) a w := by
  obtain ⟨B, fp, hh, d⟩ := S
  obtain ⟨p1, p2, p3⟩ := hh 0 _ rfl
  obtain ⟨q1, q2, q3⟩ := hh 1 _ rfl
  have d01 := d 1 0 (by omega) (by simp) (by simp)
  refine app1_StringS hgd s x ho hv p1 p2 hx hc h1 q1 q2 d01 hlen (fun v' w' fp' k1 k2 k3 k4 => ?_)
  obtain ⟨sa, sn, sc, rfl⟩ := ow_slice k1
  refine h sa sn sc w' ⟨B.trans (k4.below (fun b hb => (p3 b hb).1) B.size), fun i => match i with | 0 => fp' | i + 1 => fp (i + 2), fun i Q hQ => ?_, fun i j hij hi hj => ?_⟩
  · cases i with
    | zero =>
      obtain rfl : _ = Q := by simpa using hQ
      refine ⟨k1, k2, fun b hm => ⟨?_, Enc.ow_lt _ k1 b hm⟩⟩
      rcases k3 b hm with h1 | h1 | h1
      · exact (p3 b h1).1
      · exact (q3 b h1).1
      · have := B.size; omega
    | succ i =>
      have hQ' : ps[i]? = some Q := by simpa using hQ
      obtain ⟨h1, h2, h3⟩ := hh (i + 2) Q hQ'
      have hil := (List.getElem?_eq_some_iff.1 hQ').1
      refine ⟨Q.frame (fun b hm => k4.block b (h3 b hm).2 (fun hf => ?_)) h1, h2, fun b hm => ⟨(h3 b hm).1, Nat.lt_of_lt_of_le (h3 b hm).2 k4.size⟩⟩
      exact d 0 (i + 2) (by omega) (by simp) (by simpa using hil) b hf hm
  · have hd0 : ∀ i, i < ps.length → Dj fp' (fp (i + 2)) := by
      intro i hi b hb1 hb2
      rcases k3 b hb1 with h1 | h1 | h1
      · exact d 0 (i + 2) (by omega) (by simp) (by simpa using hi) b h1 hb2
      · exact d 1 (i + 2) (by omega) (by simp) (by simpa using hi) b h1 hb2
      · have := ((hh (i + 2) _ (by rw [List.getElem?_cons_succ, List.getElem?_cons_succ]; exact List.getElem?_eq_getElem hi)).2.2 b hb2).2
        omega
    cases i with
    | zero =>
      cases j with
      | zero => exact absurd rfl hij
      | succ j => exact hd0 j (by simpa using hj)
    | succ i =>
      cases j with
      | zero => exact (hd0 i (by simpa using hi)).symm
      | succ j => exact d (i + 2) (j + 2) (by omega) (by simpa using hi) (by simpa using hj)

/-- append of several elements that lead nowhere. -/
theorem stS_StringS {w0 w : World} {ps : List Ob} {ops : Array Oper} {rest : List Oper} {o : Oper} {a : Act} {Q : Exit → Act → World → Prop} {s x : Operand} {v : Value} {l : List (ByteArray)} {ys : List (ByteArray)} {css : List (List Value)} {fys : List (List Nat)}
    (S : Star w0 w (oE (sliceE strE 9) [v] l :: ps)) (hgd : o.guard = none)
    (ho : o.op = .call { callee := .builtin .append, args := #[s, x], argTypes := #[64, 64] }) (hv : a.eval s = v)
    (hys : OwAll (strE) w ys css fys) (hfy : fys.flatten = []) (hs : SrcS w (strE).size (a.eval x) ys.length css.flatten) (hlen : l.length + ys.length ≤ 1000000000000)
    (h : ∀ sa sn sc w', Star w0 w' (oE (sliceE strE 9) [.slice sa sn sc] (l ++ ys) :: ps) → wpList Tryd.prog ops Q rest (a.put o.dst (.slice sa sn sc)) w') : wpList Tryd.prog ops Q (o :: rest) a w := by
  obtain ⟨B, fp, hh, d⟩ := S
  obtain ⟨p1, p2, p3⟩ := hh 0 _ rfl
  refine appS_StringS hgd s x ho hv p1 hys hs (by rw [hfy, List.append_nil]; exact p2) hlen (fun v' w' fp' k1 k2 k3 k4 => ?_)
  rw [hfy] at k3
  obtain ⟨sa, sn, sc, rfl⟩ := ow_slice k1
  refine h sa sn sc w' ⟨B.trans (k4.below (fun b hb => (p3 b hb).1) B.size), fun i => match i with | 0 => fp' | i + 1 => fp (i + 1), fun i Q hQ => ?_, fun i j hij hi hj => ?_⟩
  · cases i with
    | zero =>
      obtain rfl : _ = Q := by simpa using hQ
      refine ⟨k1, k2, fun b hm => ⟨?_, Enc.ow_lt _ k1 b hm⟩⟩
      rcases k3 b hm with h1 | h1 | h1
      · exact (p3 b h1).1
      · cases h1
      · have := B.size; omega
    | succ i =>
      have hQ' : ps[i]? = some Q := by simpa using hQ
      obtain ⟨h1, h2, h3⟩ := hh (i + 1) Q hQ'
      have hil := (List.getElem?_eq_some_iff.1 hQ').1
      refine ⟨Q.frame (fun b hm => k4.block b (h3 b hm).2 (fun hf => ?_)) h1, h2, fun b hm => ⟨(h3 b hm).1, Nat.lt_of_lt_of_le (h3 b hm).2 k4.size⟩⟩
      exact d 0 (i + 1) (by omega) (by simp) (by simpa using hil) b hf hm
  · have hd0 : ∀ i, i < ps.length → Dj fp' (fp (i + 1)) := by
      intro i hi b hb1 hb2
      rcases k3 b hb1 with h1 | h1 | h1
      · exact d 0 (i + 1) (by omega) (by simp) (by simpa using hi) b h1 hb2
      · cases h1
      · have := ((hh (i + 1) _ (by rw [List.getElem?_cons_succ]; exact List.getElem?_eq_getElem hi)).2.2 b hb2).2
        omega
    cases i with
    | zero =>
      cases j with
      | zero => exact absurd rfl hij
      | succ j => exact hd0 j (by simpa using hj)
    | succ i =>
      cases j with
      | zero => exact (hd0 i (by simpa using hi)).symm
      | succ j => exact d (i + 1) (j + 1) (by omega) (by simpa using hi) (by simpa using hj)

end Go.Proofs.YtbiagkbjhdidjaaDoor
