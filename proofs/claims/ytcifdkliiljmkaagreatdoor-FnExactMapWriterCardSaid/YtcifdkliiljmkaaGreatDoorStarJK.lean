/-
  Plain lemmas: append of a whole slice of one's own; blocks of several cells an element; copy of such blocks. No program function is named here.
-/
import Derived.Test.YtcifdkliiljmkaaGreatDoorPackB
import Derived.Laws.CopyOwn
namespace Go.Proofs.YtcifdkliiljmkaaGreatDoor
open Go.RowKit

theorem srcS_own {α : Type} {E : Enc α} {ty : TypeId} {w : World} {v : Value} {l : List α} {f : List Nat} (h1 : ∀ w x cs f, E.ow w cs x f → ∀ u, u ∈ cs → u.oneCell' = true) (o : (sliceE E ty).ow w [v] l f) :
    ∃ css fys, OwAll E w l css fys ∧ SrcS w E.size v l.length css.flatten ∧ f = v.ownBlock.toList ++ fys.flatten := by
  obtain ⟨v', xss, fps, hv, a1, a2, rfl⟩ := o
  obtain rfl : v = v' := by simpa using hv
  have hone : ∀ u, u ∈ xss.flatten → u.oneCell' = true := by
    clear a2 hv
    induction a1 with
    | nil => intro u hu; simp at hu
    | cons b1 b2 ih =>
      intro u hu
      rw [List.flatten_cons] at hu
      rcases List.mem_append.1 hu with h | h
      · exact h1 _ _ _ _ b1 u h
      · exact ih u h
  refine ⟨xss, fps, a1, ?_, rfl⟩
  have hfl := a1.flat
  obtain ⟨-, a2⟩ := a2
  rcases a2 with ⟨rfl, hn⟩ | ⟨g, cap, cur, rfl, hg, hh, hc, hm, hs, ht⟩
  · refine .inl ⟨0, rfl, hn, ?_⟩
    rw [hn, Nat.zero_mul] at hfl
    exact List.eq_nil_of_length_eq_zero hfl
  · refine .inr ⟨⟨g, 0, none⟩, cap, rfl, hfl, fun j u hu => ?_, hone⟩
    rw [← ht, List.getElem?_take] at hu
    split at hu
    · rw [Addr.add_lit]
      simpa [World.cell?, hh] using hu
    · cases hu

theorem one_ints_ow : ∀ (w : World) (x : List Int) (cs : List Value) (f : List Nat), intsE.ow w cs x f → ∀ u, u ∈ cs → u.oneCell' = true := by
  intro w x cs f h u hu
  obtain ⟨v, rfl⟩ := one_of (Enc.rd_len _ (Enc.rd_ow _ h))
  obtain ⟨sa, sn, sc, rfl⟩ := ow_slice h
  have : u = .slice sa sn sc := by simpa using hu
  subst this; rfl

/-- append of a whole slice of one's own. -/
theorem stJ_Int64SS {w0 w : World} {ps : List Ob} {ops : Array Oper} {rest : List Oper} {o : Oper} {a : Act} {Q : Exit → Act → World → Prop} {s x : Operand} {v v2 : Value} {l l2 : List (List Int)}
    (S : Star w0 w (oE intssE [v] l :: oE intssE [v2] l2 :: ps)) (hgd : o.guard = none)
    (ho : o.op = .call { callee := .builtin .append, args := #[s, x], argTypes := #[29, 29] }) (hv : a.eval s = v) (hx : a.eval x = v2) (hlen : l.length + l2.length ≤ 1000000000000)
    (h : ∀ sa sn sc w', Star w0 w' (oE intssE [.slice sa sn sc] (l ++ l2) :: ps) → wpList Tryz.prog ops Q rest (a.put o.dst (.slice sa sn sc)) w') : wpList Tryz.prog ops Q (o :: rest) a w := by
  obtain ⟨B, fp, hh, d⟩ := S
  obtain ⟨p1, p2, p3⟩ := hh 0 _ rfl
  obtain ⟨q1, q2, q3⟩ := hh 1 _ rfl
  obtain ⟨css, fys, e1, e2, e3⟩ := srcS_own one_ints_ow q1
  have hsub : ∀ b, b ∈ fys.flatten → b ∈ fp 1 := fun b hb => by rw [e3]; exact List.mem_append_right _ hb
  have hnd : (fp 0 ++ fys.flatten).Nodup := by
    have d01 := d 0 1 (by omega) (by simp) (by simp)
    rw [e3] at q2
    exact Dj.nodup (fun b hb hb2 => d01 b hb (hsub b hb2)) p2 (List.nodup_append.1 q2).2.1
  refine appS_Int64SS hgd s x ho hv p1 e1 (by rw [hx]; exact e2) hnd hlen (fun v' w' fp' k1 k2 k3 k4 => ?_)
  obtain ⟨sa, sn, sc, rfl⟩ := ow_slice k1
  refine h sa sn sc w' ⟨B.trans (k4.below (fun b hb => (p3 b hb).1) B.size), fun i => match i with | 0 => fp' | i + 1 => fp (i + 2), fun i Q hQ => ?_, fun i j hij hi hj => ?_⟩
  · cases i with
    | zero =>
      obtain rfl : _ = Q := by simpa using hQ
      refine ⟨k1, k2, fun b hm => ⟨?_, Enc.ow_lt _ k1 b hm⟩⟩
      rcases k3 b hm with h1 | h1 | h1
      · exact (p3 b h1).1
      · exact (q3 b (hsub b h1)).1
      · have := B.size; omega
    | succ i =>
      have hQ' : ps[i]? = some Q := by simpa using hQ
      obtain ⟨h1, h2, h3⟩ := hh (i + 2) Q hQ'
      have hil := (List.getElem?_eq_some_iff.1 hQ').1
      refine ⟨Q.frame (fun b hm => k4.block b (h3 b hm).2 (fun hf => ?_)) h1, h2, fun b hm => ⟨(h3 b hm).1, Nat.lt_of_lt_of_le (h3 b hm).2 k4.size⟩⟩
      exact d 0 (i + 2) (by omega) (by simp) (by simpa using hil) b hf hm
  · have hd0 : ∀ i, i < ps.length → Dj fp' (fp (i + 2)) := by
      intro i hi b hb1 hb2
      rcases k3 b hb1 with h1 | h1 | h1
      · exact d 0 (i + 2) (by omega) (by simp) (by simpa using hi) b h1 hb2
      · exact d 1 (i + 2) (by omega) (by simp) (by simpa using hi) b (hsub b h1) hb2
      · have := ((hh (i + 2) _ (by rw [List.getElem?_cons_succ, List.getElem?_cons_succ]; exact List.getElem?_eq_getElem hi)).2.2 b hb2).2
        omega
    cases i with
    | zero =>
      cases j with
      | zero => exact absurd rfl hij
      | succ j => exact hd0 j (by simpa using hj)
    | succ i =>
      cases j with
      | zero => exact (hd0 i (by simpa using hi)).symm
      | succ j => exact d (i + 2) (j + 2) (by omega) (by simpa using hi) (by simpa using hj)

theorem flatMap_len' {α : Type} (c : α → List Value) (s : Nat) (l : List α) (hc : ∀ x, x ∈ l → (c x).length = s) : (l.flatMap c).length = l.length * s := by
  induction l with
  | nil => simp
  | cons a l ih => rw [List.flatMap_cons, List.length_append, ih (fun x hx => hc x (by simp [hx])), hc a (by simp), List.length_cons, Nat.succ_mul]; omega

section
variable {w0 w w' : World} {ps : List Ob}
/-- A block that a copy has written into. -/
theorem Star.row {b : Nat} {cs : List Value} {ty : TypeId} (S : Star w0 w (oB b cs ty :: ps)) (cs' : List Value) : Star w0 (w.setRow b cs'.toArray) (oB b cs' ty :: ps) :=
  S.upd fun f hf _ hl => by
    obtain ⟨hb, rfl⟩ := hf
    refine ⟨[b], ⟨setRow_heap w b _ _ ty _ hb, rfl⟩, by simp, fun b hb => .inl hb, fun b hb => by simpa [World.setRow] using hl b hb, ⟨rfl, rfl, rfl, by simp [World.setRow], fun k hk hn => ?_⟩⟩
    exact setRow_other w b k cs'.toArray (fun e => hn (by simp [e]))

/-- A slice of one element that has just been made itself. -/
theorem Star.lit1 {α : Type} {E : Enc α} {ty : TypeId} {g : Nat} {v : Value} {y : α} (S : Star w0 w (oB g [v] ty :: oE E [v] y :: ps)) (hE : E.size = 1) : Star w0 w (oE (sliceE E ty) [.slice (some ⟨g, 0, none⟩) 1 1] [y] :: ps) :=
  S.join fun f h hf hh => by
    obtain ⟨hb, rfl⟩ := hf
    refine ⟨_, [[v]], [h], rfl, OwAll.one hh, ?_, by simp [Value.ownBlock]⟩
    exact ⟨by simp [hE], .inr ⟨g, 1, #[v], rfl, Nat.zero_le _, hb, by simp, by simp [maxLen], by simp [hE], by simp [hE]⟩⟩

theorem Star.slcN (S : Star w0 w ps) (n : Nat) {α : Type} {E : Enc α} {t : TypeId} {v : Value} {a : List α} (h : ps[n]? = some (oE (sliceE E t) [v] a)) : ∃ sa sc, v = .slice sa a.length sc := by
  obtain ⟨f, o⟩ := S.own n h
  obtain ⟨sa, sc, hv, -⟩ := Enc.rd_ow _ o
  exact ⟨sa, sc, by simpa using hv⟩

/-- What has just been written into a block, as a slice whose elements are several cells. -/
theorem Star.lits {α : Type} {E : Enc α} {ty : TypeId} {g : Nat} {vs : List Value} (S : Star w0 w (oB g vs ty :: ps)) (l : List α) (c : α → List Value) (n : Nat) (hn : l.length = n) (hv : vs = l.flatMap c) (hf : ∀ x, x ∈ l → E.ow w (c x) x []) (hl : n ≤ maxLen) :
    Star w0 w (oE (sliceE E ty) [.slice (some ⟨g, 0, none⟩) n n] l :: ps) :=
  S.upd fun q hq _ hlt => by
    subst hn hv
    obtain ⟨hb, rfl⟩ := hq
    have key := flatMap_len' c E.size l (fun x hx => Enc.rd_len _ (Enc.rd_ow _ (hf x hx)))
    refine ⟨[g], ?_, by simp, fun b hb => .inl hb, hlt, But.refl _ _⟩
    exact ow_flats (base := 0) c hf ⟨by rw [key], .inr ⟨g, l.length, (l.flatMap c).toArray, rfl, Nat.zero_le _, hb, Nat.le_refl _, hl, by simp [key], by rw [List.take_of_length_le] <;> simp [key]⟩⟩
end

theorem run_copy_wide {P : Program} (w : World) (dT sT ty elem : TypeId) (g o dLen dCap : Nat) (a : Addr) (sLen sCap size : Nat) (cur : Array Value) (t : TypeId) (cs : List Value)
    (hu : P.underlying dT = some (.slice elem)) (hs : (P.info? elem).map (·.size) = some size)
    (hg : w.heap[g]? = some (.cells cur t (0, 0))) (hn : cs.length = Nat.min sLen dLen * size)
    (hsrc : ∀ j v, cs[j]? = some v → w.cell? (a.add j) = some v) (hfit : o + cs.length ≤ cur.size) (h1 : ∀ v ∈ cs, v.oneCell' = true) :
    (Builtin.copy_ #[dT, sT] ty #[.slice (some ⟨g, o, none⟩) dLen dCap, .slice (some a) sLen sCap]).run P w =
      .ok (goInt (Nat.min sLen dLen)) (w.setRow g (cur.toList.take o ++ cs ++ cur.toList.drop (o + cs.length)).toArray) := by
  have hl := run_loadCells_list (P := P) w a cs hsrc
  have hst := run_storeCells_at P g o t cs 0 cur w hg (by simpa using hfit) h1
  cases hq : P.info? elem with
  | none => simp [hq] at hs
  | some i =>
    have hi : i.size = size := by simpa [hq] using hs
    simp [Builtin.copy_, run_underlying hu, Builtin.lenOf, Builtin.firstCells, sizeOf, typeInfo, hq, hi, ← hn, hl, hst]

theorem wpList_copy_wide {P : Program} {w : World} {ops : Array Oper} {rest : List Oper} {o : Oper} {a : Act} {Q : Exit → Act → World → Prop} (hgd : o.guard = none) (d s : Operand) (dT sT : TypeId)
    (ho : o.op = .call { callee := .builtin .copy, args := #[d, s], argTypes := #[dT, sT] }) (elem : TypeId) (size : Nat) (hu : P.underlying dT = some (.slice elem)) (hsz : (P.info? elem).map (·.size) = some size)
    (g off dLen dCap : Nat) (ad : Addr) (sLen sCap : Nat) (hd : a.eval d = .slice (some ⟨g, off, none⟩) dLen dCap) (hs : a.eval s = .slice (some ad) sLen sCap)
    (cur : List Value) (t : TypeId) (hg : Blk w g cur t) (cs : List Value) (m : Nat) (hm : m = Nat.min sLen dLen) (hn : cs.length = m * size)
    (hsrc : ∀ j v, cs[j]? = some v → w.cell? (ad.add j) = some v) (hfit : off + cs.length ≤ cur.length) (h1 : ∀ v ∈ cs, v.oneCell' = true) (new : List Value) (hnew : cur.take off ++ cs ++ cur.drop (off + cs.length) = new) (B : Nat) (w0 : World) (hb : Below B w0 w) (hBg : B ≤ g)
    (h : ∀ w', Hid (Blk w' g new t) → Below B w0 w' → wpList P ops Q rest (a.put o.dst (.int .i64 (m : Int))) w') : wpList P ops Q (o :: rest) a w := by
  subst hm hnew
  refine wpList_plain hgd fun K hK => ?_
  have hrun := run_copy_wide (P := P) w dT sT o.type elem g off dLen dCap ad sLen sCap size cur.toArray t cs hu hsz hg hn hsrc (by simpa using hfit) h1
  have h := h _ (show _ = _ from setRow_heap w g _ (cur.take off ++ cs ++ cur.drop (off + cs.length)).toArray t _ hg) (below_setRow hb hBg _)
  unfold Oper.wp
  simp [execOp, ho, resolve, invoke, builtin, hd, hs, hrun, Result.andThen]
  simp only [List.append_assoc] at h
  exact hK _ _ h

theorem step_copy_wide {P : Program} {ops : Array Oper} {o : Oper} {a : Act} {w : World} {K : Act → World → Prop} {Q : Exit → Act → World → Prop} {E : Prop} (hgd : o.guard = none) (d s : Operand) (dT sT : TypeId)
    (ho : o.op = .call { callee := .builtin .copy, args := #[d, s], argTypes := #[dT, sT] }) (elem : TypeId) (size : Nat) (hu : P.underlying dT = some (.slice elem)) (hsz : (P.info? elem).map (·.size) = some size)
    (g off dLen dCap : Nat) (ad : Addr) (sLen sCap : Nat) (hd : a.eval d = .slice (some ⟨g, off, none⟩) dLen dCap) (hs : a.eval s = .slice (some ad) sLen sCap)
    (cur : List Value) (t : TypeId) (hg : Blk w g cur t) (cs : List Value) (m : Nat) (hm : m = Nat.min sLen dLen) (hn : cs.length = m * size)
    (hsrc : ∀ j v, cs[j]? = some v → w.cell? (ad.add j) = some v) (hfit : off + cs.length ≤ cur.length) (h1 : ∀ v ∈ cs, v.oneCell' = true) (new : List Value) (hnew : cur.take off ++ cs ++ cur.drop (off + cs.length) = new) (B : Nat) (w0 : World) (hb : Below B w0 w) (hBg : B ≤ g)
    (h : ∀ w', Hid (Blk w' g new t) → Below B w0 w' → K (a.put o.dst (.int .i64 (m : Int))) w') :
    if Region.wanted o (yielded ops a.tmps) = true then Oper.wp P o a w K Q else E := by
  have hw : Region.wanted o (yielded ops a.tmps) = true := by simp [Region.wanted, hgd]
  rw [if_pos hw]
  subst hm hnew
  have hrun := run_copy_wide (P := P) w dT sT o.type elem g off dLen dCap ad sLen sCap size cur.toArray t cs hu hsz hg hn hsrc (by simpa using hfit) h1
  have h := h _ (show _ = _ from setRow_heap w g _ (cur.take off ++ cs ++ cur.drop (off + cs.length)).toArray t _ hg) (below_setRow hb hBg _)
  unfold Oper.wp
  simp [execOp, ho, resolve, invoke, builtin, hd, hs, hrun, Result.andThen]
  simp only [List.append_assoc] at h
  exact h

theorem src_cells {w : World} {b c m size : Nat} {news : List Value} (hl : news.length = m * size) (hc : ∀ j u, news[j]? = some u → w.cell? ⟨b, j, none⟩ = some u) (h1 : ∀ u, u ∈ news → u.oneCell' = true) : SrcS w size (.slice (some ⟨b, 0, none⟩) m c) m news :=
  .inr ⟨⟨b, 0, none⟩, c, rfl, hl, fun j u hu => by rw [Addr.add_lit]; simpa using hc j u hu, h1⟩

theorem one_ints (l : List Int) : ∀ u, u ∈ l.map (Value.int .i64) → u.oneCell' = true := by
  intro u hu
  obtain ⟨x, _, rfl⟩ := List.mem_map.1 hu
  rfl

theorem all2 {α : Type} {E : Enc α} {w : World} {x y : α} {cx cy : List Value} (h : E.ow w cx x []) (k : E.ow w cy y []) : OwAll E w [x, y] [cx, cy] [[], []] := .cons h (.cons k .nil)

theorem below_cell_alloc (w : World) (o : Obj) {a : Addr} (h : a.block < w.heap.size) : (w.alloc o).cell? a = w.cell? a := ((Below.refl w.heap.size w).alloc (Nat.le_refl _) o).cell h

theorem cell_al {w : World} {a : Addr} {v : Value} (h : w.cell? a = some v) (o : Obj) : (w.alloc o).cell? a = some v := by rw [below_cell_alloc w o (World.block_lt_of_cell? w _ h)]; exact h

theorem Star.drew {w0 w : World} {ps : List Ob} (S : Star w0 w ps) : Star w0 w.drew ps := S.step (Below.refl _ _).drew

end Go.Proofs.YtcifdkliiljmkaaGreatDoor
