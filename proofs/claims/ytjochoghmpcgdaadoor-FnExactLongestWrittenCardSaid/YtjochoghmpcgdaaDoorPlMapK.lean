/-
  Places met, in a map of the call's own (map[Place]int); lists of places.
-/
import Derived.Test.YtjochoghmpcgdaaDoorPackB
import Derived.Test.YtjochoghmpcgdaaDoorStarKK
import Derived.Maps.Own
import Derived.Maps.OwnSet
import Derived.Maps.Views
import Derived.DeepKeys4
import Derived.WideKeyPair
namespace Go.Proofs.YtjochoghmpcgdaaDoor
open Go.RowKit Go.Maps Go.WideMaps

theorem laidOutP : laidOutB Tryd.prog = true := by kernel_rfl
theorem rowPl : (96 : TypeId) < Tryd.prog.types.size := of_decide_eq_true (by kernel_rfl)
theorem pos_succP {n : Nat} (h : 0 < n) : ∃ m, n = m + 1 := ⟨n - 1, by omega⟩
theorem posPl : 0 < Tryd.prog.types.size := of_decide_eq_true (by kernel_rfl)
theorem sizePl : ∃ m, Tryd.prog.types.size = m + 1 := pos_succP posPl
theorem widePl : (match Tryd.prog.underlying 96 with | some (.array _ _) | some (.struct _) => true | _ => false) = true := by kernel_rfl
set_option maxRecDepth 100000 in
theorem lawPl : Keyed Tryd.prog 96 := Keyed.of_law (deep_law_laid laidOutP (m := 2) (by omega) rowPl (by kernel_rfl) widePl)
theorem undMapP : Tryd.prog.underlying 128 = some (.map 96 3) := by kernel_rfl
theorem undInt : Tryd.prog.underlying 3 = some (.int .i64) := by kernel_rfl
theorem undI64P : Tryd.prog.underlying 2 = some (.int .i64) := by kernel_rfl
theorem zeroInt (w : World) : (zeroValue 3).run Tryd.prog w = .ok (.int .i64 0) w := by kernel_rfl
theorem ktPl : Tryd.prog.keyType 96 = true := by kernel_rfl
theorem cellsPl : Tryd.prog.cellsOf 96 = 2 := by kernel_rfl
theorem cellsI64 : Tryd.prog.cellsOf 2 = 1 := by kernel_rfl

def plV (p q : Nat) : Value := .agg #[.int .i64 p, .int .i64 q]
def plL (p q : Nat) : Lit := .string (keyBytes [.int .i64 p, .int .i64 q])

theorem keyPl {p q : Nat} (hp : p < 1000000) (hq : q < 1000000) : keyOf Tryd.prog 96 (plV p q) = some (plL p q) := by
  have wp : (Lit.int .i64 (p : Int)).wf = true := WalkArith.wf_i64 (by omega)
  have wq : (Lit.int .i64 (q : Int)).wf = true := WalkArith.wf_i64 (by omega)
  obtain ⟨m, hm⟩ := sizePl
  have hu := Tryd.underlying96
  unfold keyOf plV plL
  simp only [hu]
  rw [if_pos (by simp [ktPl, Value.formed, hu, cellsPl]), hm]
  unfold Program.keyLits
  simp only [hu, Value.cells]
  rw [if_pos ⟨by rw [cellsPl]; rfl, by kernel_rfl⟩]
  simp [Program.keyLits, undI64P, wp, wq, cellsI64]

theorem plL_ne {p q p' q' : Nat} (hp : p < 1000000) (hq : q < 1000000) (hp' : p' < 1000000) (hq' : q' < 1000000) (h : (p, q) ≠ (p', q')) : plL p q ≠ plL p' q' := fun e => by
  have h1 := keyPl hp hq
  have h2 := keyPl hp' hq'
  rw [← e] at h2
  have h3 := lawPl.inj h1 h2
  unfold plV at h3
  simp only [Value.agg.injEq, Array.mk.injEq, List.cons.injEq, Value.int.injEq, true_and, and_true] at h3
  exact h (Prod.ext (by omega) (by omega))

/-- Block b is a map that holds just these places. -/
def MetIs (w : World) (b : Nat) (L : List Pl) : Prop :=
  ∃ D : DataW Unit, w.ownsMap Tryd.prog 96 (plainElem Tryd.prog 3) b L.length D ∧ ∀ p q : Nat, p < 1000000 → q < 1000000 → Maps.has D (plL p q) = L.contains (p, q)

def oMet (b : Nat) (L : List Pl) : Ob := ⟨fun w fp => MetIs w b L ∧ fp = [b], fun {w w' fp} hf h => by
  obtain ⟨⟨D, ⟨es, clock, hb, F, hs, hD⟩, h2⟩, rfl⟩ := h
  exact ⟨⟨D, ⟨es, clock, (hf b (by simp)).trans hb, F, hs, hD⟩, h2⟩, rfl⟩⟩

theorem Star.allocMet {w0 w : World} {ps : List Ob} (S : Star w0 w ps) : Star w0 (w.alloc (.map #[] 0)) (oMet w.heap.size [] :: ps) :=
  S.push (P := oMet w.heap.size []) (f := [w.heap.size]) ((Below.refl _ _).alloc (Nat.le_refl _) _) ⟨⟨.map [], World.ownsMap_made _ _ _ _, fun p q _ _ => rfl⟩, rfl⟩ (by simp) (fun b hb => by rw [List.mem_singleton.1 hb]; exact Nat.le_refl _) (fun b hb => by rw [List.mem_singleton.1 hb, World.size_alloc]; exact Nat.lt_succ_self _)

theorem Star.metIs {w0 w : World} {ps : List Ob} (S : Star w0 w ps) (n : Nat) {b : Nat} {L : List Pl} (h : ps[n]? = some (oMet b L)) : MetIs w b L := by
  obtain ⟨-, fp, hh, -⟩ := S
  exact ((hh n _ h).1).1

theorem MetIs.put {w : World} {b : Nat} {L : List Pl} (h : MetIs w b L) {p q : Nat} (hp : p < 1000000) (hq : q < 1000000) (hl : L.length < 1000000000000) (v : Nat) (hv : v < 1000000000000) :
    ∃ w', (Instr.mapUpdate 128 (.map (some b)) (plV p q) (.int .i64 v)).run Tryd.prog w = .ok () w' ∧ MetIs w' b (L ++ [(p, q)]) ∧ w.grownBy w' (some b) := by
  obtain ⟨D, h1, h2⟩ := h
  obtain ⟨w', r1, r2, r3⟩ := h1.update lawPl undMapP (by unfold maxLen; omega) (keyPl hp hq) (plainElem_int undInt (show (Lit.int .i64 (v : Int)).wf = true from WalkArith.wf_i64 (by omega)))
  refine ⟨w', r1, ⟨_, by rw [List.length_append]; exact r2, fun p' q' hp' hq' => ?_⟩, r3⟩
  have hm : Maps.IsMap D := by
    obtain ⟨es, clock, -, -, -, rfl⟩ := h1
    exact ⟨_, rfl⟩
  by_cases he : (p', q') = (p, q)
  · cases he
    rw [Maps.has_put_same hm (lawPl.key (keyPl hp hq))]
    simp
  · rw [Maps.has_put_other (plL_ne hp' hq' hp hq he), h2 p' q' hp' hq']
    rw [Bool.eq_iff_iff]
    simp only [List.contains_eq_mem, decide_eq_true_eq, List.mem_append, List.mem_singleton]
    constructor
    · intro h; exact .inl h
    · rintro (h | h)
      · exact h
      · exact absurd h he

theorem MetIs.look {w : World} {b : Nat} {L : List Pl} (h : MetIs w b L) {p q : Nat} (hp : p < 1000000) (hq : q < 1000000) :
    ∃ c : Int, (Instr.lookup 128 (.map (some b)) (plV p q) true).run Tryd.prog w = .ok (.tuple #[.int .i64 c, .bool (L.contains (p, q))]) w := by
  obtain ⟨D, h1, h2⟩ := h
  obtain ⟨v, ps, hrun, hv⟩ := h1.look_ok lawPl undMapP (zeroInt w) (plainElem_int undInt (by decide)) (keyPl hp hq)
  rw [h2 p q hp hq] at hrun
  obtain ⟨c, rfl, -, -⟩ := plainElem_int_inv undInt hv
  exact ⟨c, hrun⟩

/-- The map is written: all else that the call holds is as it was. -/
theorem Star.putMet {w0 w w' : World} {ps : List Ob} {b : Nat} {L L' : List Pl} (S : Star w0 w (oMet b L :: ps)) (h : MetIs w' b L') (hg : w.grownBy w' (some b)) : Star w0 w' (oMet b L' :: ps) :=
  S.upd fun f hf _ hlt => ⟨f, ⟨h, hf.2⟩, by rw [hf.2]; simp, fun x hx => .inl hx, fun x hx => by
    rw [hf.2] at hx
    rw [List.mem_singleton.1 hx]
    obtain ⟨D, h1, -⟩ := h
    exact h1.lt, by
    rw [hf.2]
    exact ⟨hg.os, hg.tape, hg.output, hg.size, fun i hi hn => hg.block i hi (fun e => hn (by simp at e; simp [e]))⟩⟩

theorem stp_put {w0 w : World} {ps : List Ob} {ops : Array Oper} {rest : List Oper} {o : Oper} {a : Act} {Q : Exit → Act → World → Prop} {m x v : Operand} {b p q n : Nat} {L : List Pl}
    (S : Star w0 w (oMet b L :: ps)) (hg : o.guard = none) (ho : o.op = .mapUpdate 128 m x v) (hm : a.eval m = .map (some b)) (hx : a.eval x = plV p q) (hv : a.eval v = .int .i64 n)
    (hp : p < 1000000) (hq : q < 1000000) (hl : L.length < 1000000000000) (hn : n < 1000000000000) (h : ∀ w', Star w0 w' (oMet b (L ++ [(p, q)]) :: ps) → wpList Tryd.prog ops Q rest (a.put o.dst undef) w') : wpList Tryd.prog ops Q (o :: rest) a w := by
  refine wpList_plain hg fun K' hK' => ?_
  obtain ⟨w', hrun, r1, r2⟩ := (S.metIs 0 rfl).put hp hq hl n hn
  unfold Oper.wp
  simp [execOp, ho, hm, hx, hv, hrun, Result.andThen]
  exact hK' _ _ (h w' (S.putMet r1 r2))

theorem stp_look {w0 w : World} {ps : List Ob} {ops : Array Oper} {rest : List Oper} {o : Oper} {a : Act} {Q : Exit → Act → World → Prop} {m x : Operand} {b p q : Nat} {L : List Pl}
    (S : Star w0 w ps) (n : Nat) (hn : ps[n]? = some (oMet b L)) (hg : o.guard = none) (ho : o.op = .lookup 128 m x true) (hm : a.eval m = .map (some b)) (hx : a.eval x = plV p q)
    (hp : p < 1000000) (hq : q < 1000000) (h : ∀ c : Int, wpList Tryd.prog ops Q rest (a.put o.dst (.tuple #[.int .i64 c, .bool (L.contains (p, q))])) w) : wpList Tryd.prog ops Q (o :: rest) a w := by
  refine wpList_plain hg fun K' hK' => ?_
  obtain ⟨c, hrun⟩ := (S.metIs n hn).look hp hq
  unfold Oper.wp
  simp [execOp, ho, hm, hx, hrun, Result.andThen]
  exact hK' _ _ (by simpa using h c)

/-- Places in cells. -/
def plE : Enc Pl := viaE (pairE intE intE) fun p => ((p.1 : Int), (p.2 : Int))
abbrev plsE := sliceE plE 96
theorem rd_pl {w : World} {B : Nat} {cs : List Value} {x : Pl} (h : plE.rd w B cs x) : cs = [.int .i64 (x.1 : Nat), .int .i64 (x.2 : Nat)] := by
  obtain ⟨c1, c2, rfl, h1, h2⟩ := h
  rw [h1.1, h2.1]; rfl
theorem ow_pl {x : Pl} (h1 : x.1 < 1000000) (h2 : x.2 < 1000000) (w : World) : plE.ow w [.int .i64 (x.1 : Nat), .int .i64 (x.2 : Nat)] x [] := by
  have b1 : -9223372036854775808 ≤ (x.1 : Int) ∧ (x.1 : Int) ≤ 9223372036854775807 := ⟨by omega, by omega⟩
  have b2 : -9223372036854775808 ≤ (x.2 : Int) ∧ (x.2 : Int) ≤ 9223372036854775807 := ⟨by omega, by omega⟩
  exact ⟨[_], [_], [], [], rfl, rfl, ⟨⟨rfl, b1⟩, rfl⟩, ⟨⟨rfl, b2⟩, rfl⟩⟩

theorem inf_PlS : (Tryd.prog.info? 96).map (fun i => (i.zero, i.size, i.bytes)) = some (some (.agg #[.int .i64 0, .int .i64 0]), 2, 16) := by kernel_rfl

theorem app1_PlS {w : World} {ops : Array Oper} {rest : List Oper} {o : Oper} {a : Act} {Q : Exit → Act → World → Prop} (hgd : o.guard = none) (s x : Operand)
    (ho : o.op = .call { callee := .builtin .append, args := #[s, x], argTypes := #[89, 89] }) {v : Value} {l : List _} {fp : List Nat} (hv : a.eval s = v) (hown : (sliceE plE 96).ow w [v] l fp) (hn : fp.Nodup)
    {g c : Nat} (hx : a.eval x = .slice (some ⟨g, 0, none⟩) 1 c) {y : _} {cs : List Value} {fy : List Nat} (hc : ∀ j u, cs[j]? = some u → w.cell? ⟨g, j, none⟩ = some u) (h1 : ∀ u, u ∈ cs → u.oneCell' = true) (hy : (plE).ow w cs y fy)
    (hny : fy.Nodup) (hd : ∀ b, b ∈ fy → b ∉ fp) (hlen : l.length ≤ 1000000000000)
    (h : ∀ v' w' fp', (sliceE plE 96).ow w' [v'] (l ++ [y]) fp' → fp'.Nodup → (∀ b, b ∈ fp' → b ∈ fp ∨ b ∈ fy ∨ w.heap.size ≤ b) → But fp w w' → wpList Tryd.prog ops Q rest (a.put o.dst v') w') : wpList Tryd.prog ops Q (o :: rest) a w := by
  obtain ⟨i0, hi, hz0, hz1, hz2⟩ := info_parts inf_PlS
  exact wpList_append_one (E := plE) (ty := 96) hgd s x _ ho i0 _ _ Tryd.underlying89 hi hz0 hz1 hz2 rfl (by decide) (by decide) hv hown hn hx hc h1 hy hny hd hlen h

theorem st1_PlS {w0 w : World} {ps : List Ob} {ops : Array Oper} {rest : List Oper} {o : Oper} {a : Act} {Q : Exit → Act → World → Prop} {s x : Operand} {v : Value} {l : List Pl} {b c : Nat} {y : Pl} {cs : List Value}
    (S : Star w0 w (oE (sliceE plE 96) [v] l :: oE plE cs y :: ps)) (hgd : o.guard = none)
    (ho : o.op = .call { callee := .builtin .append, args := #[s, x], argTypes := #[89, 89] }) (hv : a.eval s = v)
    (hx : a.eval x = .slice (some ⟨b, 0, none⟩) 1 c) (hc : ∀ j u, cs[j]? = some u → w.cell? ⟨b, j, none⟩ = some u) (h1 : ∀ u, u ∈ cs → u.oneCell' = true) (hlen : l.length ≤ 1000000000000)
    (h : ∀ sa sn sc w', Star w0 w' (oE (sliceE plE 96) [.slice sa sn sc] (l ++ [y]) :: ps) → wpList Tryd.prog ops Q rest (a.put o.dst (.slice sa sn sc)) w') : wpList Tryd.prog ops Q (o :: rest) a w := by
  obtain ⟨B, fp, hh, d⟩ := S
  obtain ⟨p1, p2, p3⟩ := hh 0 _ rfl
  obtain ⟨q1, q2, q3⟩ := hh 1 _ rfl
  have d01 := d 1 0 (by omega) (by simp) (by simp)
  refine app1_PlS hgd s x ho hv p1 p2 hx hc h1 q1 q2 d01 hlen (fun v' w' fp' k1 k2 k3 k4 => ?_)
  obtain ⟨sa, sn, sc, rfl⟩ := ow_slice k1
  refine h sa sn sc w' ⟨B.trans (k4.below (fun b hb => (p3 b hb).1) B.size), fun i => match i with | 0 => fp' | i + 1 => fp (i + 2), fun i Q hQ => ?_, fun i j hij hi hj => ?_⟩
  · cases i with
    | zero =>
      obtain rfl : _ = Q := by simpa using hQ
      refine ⟨k1, k2, fun b hm => ⟨?_, Enc.ow_lt _ k1 b hm⟩⟩
      rcases k3 b hm with h1 | h1 | h1
      · exact (p3 b h1).1
      · exact (q3 b h1).1
      · have := B.size; omega
    | succ i =>
      have hQ' : ps[i]? = some Q := by simpa using hQ
      obtain ⟨h1, h2, h3⟩ := hh (i + 2) Q hQ'
      have hil := (List.getElem?_eq_some_iff.1 hQ').1
      refine ⟨Q.frame (fun b hm => k4.block b (h3 b hm).2 (fun hf => ?_)) h1, h2, fun b hm => ⟨(h3 b hm).1, Nat.lt_of_lt_of_le (h3 b hm).2 k4.size⟩⟩
      exact d 0 (i + 2) (by omega) (by simp) (by simpa using hil) b hf hm
  · have hd0 : ∀ i, i < ps.length → Dj fp' (fp (i + 2)) := by
      intro i hi b hb1 hb2
      rcases k3 b hb1 with h1 | h1 | h1
      · exact d 0 (i + 2) (by omega) (by simp) (by simpa using hi) b h1 hb2
      · exact d 1 (i + 2) (by omega) (by simp) (by simpa using hi) b h1 hb2
      · have := ((hh (i + 2) _ (by rw [List.getElem?_cons_succ, List.getElem?_cons_succ]; exact List.getElem?_eq_getElem hi)).2.2 b hb2).2
        omega
    cases i with
    | zero =>
      cases j with
      | zero => exact absurd rfl hij
      | succ j => exact hd0 j (by simpa using hj)
    | succ i =>
      cases j with
      | zero => exact (hd0 i (by simpa using hi)).symm
      | succ j => exact d (i + 2) (j + 2) (by omega) (by simpa using hi) (by simpa using hj)

theorem Star.pls {w0 w : World} {ps : List Ob} (S : Star w0 w ps) (n : Nat) {ty : TypeId} {v : Value} {l : List Pl} (h : ps[n]? = some (oE (sliceE plE ty) [v] l)) (hl : 0 < l.length) :
    ∃ b o cap, v = .slice (some ⟨b, o, none⟩) l.length cap ∧ l.length ≤ cap ∧ cap ≤ 9223372036854775807 ∧ ∀ k x, l[k]? = some x → w.cell? ⟨b, o + k * 2, none⟩ = some (.int .i64 (x.1 : Nat)) ∧ w.cell? ⟨b, o + k * 2 + 1, none⟩ = some (.int .i64 (x.2 : Nat)) := by
  obtain ⟨a, cap, hv, h1, h2, h3, h4⟩ := S.rd n h
  obtain rfl : v = .slice a l.length cap := by simpa using hv
  obtain ⟨b, o, xs, rfl, -, -, -⟩ := h4 0 l[0] (List.getElem?_eq_getElem hl)
  refine ⟨b, o, cap, rfl, h1, by simpa [maxLen] using h2, fun k x hx => ?_⟩
  obtain ⟨b', o', xs, e, -, e3, e4⟩ := h4 k x hx
  cases e
  obtain rfl := rd_pl e3
  have hs : plE.size = 2 := rfl
  rw [hs] at e4
  exact ⟨by have := e4 0 _ rfl; simpa [Nat.add_assoc] using this, by have := e4 1 _ rfl; simpa [Nat.add_assoc] using this⟩

end Go.Proofs.YtjochoghmpcgdaaDoor
