/-
  Plain lemmas: append of a whole slice of one's own, at moves and texts; rows of a slice of slices (written by a program of this claim's own, gen_join.py).
-/
import Derived.Test.YtcifdkliiljmkaaGreatDoorStarJK
import Derived.Test.YtcifdkliiljmkaaGreatDoorSetInK
namespace Go.Proofs.YtcifdkliiljmkaaGreatDoor
open Go.RowKit

theorem one_moves_ow : ∀ (w : World) (x : List Move) (cs : List Value) (f : List Nat), movesE.ow w cs x f → ∀ u, u ∈ cs → u.oneCell' = true := by
  intro w x cs f h u hu
  obtain ⟨v, rfl⟩ := one_of (Enc.rd_len _ (Enc.rd_ow _ h))
  obtain ⟨sa, sn, sc, rfl⟩ := ow_slice h
  have : u = .slice sa sn sc := by simpa using hu
  subst this; rfl

/-- append of a whole slice of one's own. -/
theorem stJ_MoveSS {w0 w : World} {ps : List Ob} {ops : Array Oper} {rest : List Oper} {o : Oper} {a : Act} {Q : Exit → Act → World → Prop} {s x : Operand} {v v2 : Value} {l l2 : List (List Move)}
    (S : Star w0 w (oE movessE [v] l :: oE movessE [v2] l2 :: ps)) (hgd : o.guard = none)
    (ho : o.op = .call { callee := .builtin .append, args := #[s, x], argTypes := #[34, 34] }) (hv : a.eval s = v) (hx : a.eval x = v2) (hlen : l.length + l2.length ≤ 1000000000000)
    (h : ∀ sa sn sc w', Star w0 w' (oE movessE [.slice sa sn sc] (l ++ l2) :: ps) → wpList Tryz.prog ops Q rest (a.put o.dst (.slice sa sn sc)) w') : wpList Tryz.prog ops Q (o :: rest) a w := by
  obtain ⟨B, fp, hh, d⟩ := S
  obtain ⟨p1, p2, p3⟩ := hh 0 _ rfl
  obtain ⟨q1, q2, q3⟩ := hh 1 _ rfl
  obtain ⟨css, fys, e1, e2, e3⟩ := srcS_own one_moves_ow q1
  have hsub : ∀ b, b ∈ fys.flatten → b ∈ fp 1 := fun b hb => by rw [e3]; exact List.mem_append_right _ hb
  have hnd : (fp 0 ++ fys.flatten).Nodup := by
    have d01 := d 0 1 (by omega) (by simp) (by simp)
    rw [e3] at q2
    exact Dj.nodup (fun b hb hb2 => d01 b hb (hsub b hb2)) p2 (List.nodup_append.1 q2).2.1
  refine appS_MoveSS hgd s x ho hv p1 e1 (by rw [hx]; exact e2) hnd hlen (fun v' w' fp' k1 k2 k3 k4 => ?_)
  obtain ⟨sa, sn, sc, rfl⟩ := ow_slice k1
  refine h sa sn sc w' ⟨B.trans (k4.below (fun b hb => (p3 b hb).1) B.size), fun i => match i with | 0 => fp' | i + 1 => fp (i + 2), fun i Q hQ => ?_, fun i j hij hi hj => ?_⟩
  · cases i with
    | zero =>
      obtain rfl : _ = Q := by simpa using hQ
      refine ⟨k1, k2, fun b hm => ⟨?_, Enc.ow_lt _ k1 b hm⟩⟩
      rcases k3 b hm with h1 | h1 | h1
      · exact (p3 b h1).1
      · exact (q3 b (hsub b h1)).1
      · have := B.size; omega
    | succ i =>
      have hQ' : ps[i]? = some Q := by simpa using hQ
      obtain ⟨h1, h2, h3⟩ := hh (i + 2) Q hQ'
      have hil := (List.getElem?_eq_some_iff.1 hQ').1
      refine ⟨Q.frame (fun b hm => k4.block b (h3 b hm).2 (fun hf => ?_)) h1, h2, fun b hm => ⟨(h3 b hm).1, Nat.lt_of_lt_of_le (h3 b hm).2 k4.size⟩⟩
      exact d 0 (i + 2) (by omega) (by simp) (by simpa using hil) b hf hm
  · have hd0 : ∀ i, i < ps.length → Dj fp' (fp (i + 2)) := by
      intro i hi b hb1 hb2
      rcases k3 b hb1 with h1 | h1 | h1
      · exact d 0 (i + 2) (by omega) (by simp) (by simpa using hi) b h1 hb2
      · exact d 1 (i + 2) (by omega) (by simp) (by simpa using hi) b (hsub b h1) hb2
      · have := ((hh (i + 2) _ (by rw [List.getElem?_cons_succ, List.getElem?_cons_succ]; exact List.getElem?_eq_getElem hi)).2.2 b hb2).2
        omega
    cases i with
    | zero =>
      cases j with
      | zero => exact absurd rfl hij
      | succ j => exact hd0 j (by simpa using hj)
    | succ i =>
      cases j with
      | zero => exact (hd0 i (by simpa using hi)).symm
      | succ j => exact d (i + 2) (j + 2) (by omega) (by simpa using hi) (by simpa using hj)

theorem one_strs_ow : ∀ (w : World) (x : List ByteArray) (cs : List Value) (f : List Nat), strsE.ow w cs x f → ∀ u, u ∈ cs → u.oneCell' = true := by
  intro w x cs f h u hu
  obtain ⟨v, rfl⟩ := one_of (Enc.rd_len _ (Enc.rd_ow _ h))
  obtain ⟨sa, sn, sc, rfl⟩ := ow_slice h
  have : u = .slice sa sn sc := by simpa using hu
  subst this; rfl

/-- append of a whole slice of one's own. -/
theorem stJ_StringSS {w0 w : World} {ps : List Ob} {ops : Array Oper} {rest : List Oper} {o : Oper} {a : Act} {Q : Exit → Act → World → Prop} {s x : Operand} {v v2 : Value} {l l2 : List (List ByteArray)}
    (S : Star w0 w (oE strssE [v] l :: oE strssE [v2] l2 :: ps)) (hgd : o.guard = none)
    (ho : o.op = .call { callee := .builtin .append, args := #[s, x], argTypes := #[25, 25] }) (hv : a.eval s = v) (hx : a.eval x = v2) (hlen : l.length + l2.length ≤ 1000000000000)
    (h : ∀ sa sn sc w', Star w0 w' (oE strssE [.slice sa sn sc] (l ++ l2) :: ps) → wpList Tryz.prog ops Q rest (a.put o.dst (.slice sa sn sc)) w') : wpList Tryz.prog ops Q (o :: rest) a w := by
  obtain ⟨B, fp, hh, d⟩ := S
  obtain ⟨p1, p2, p3⟩ := hh 0 _ rfl
  obtain ⟨q1, q2, q3⟩ := hh 1 _ rfl
  obtain ⟨css, fys, e1, e2, e3⟩ := srcS_own one_strs_ow q1
  have hsub : ∀ b, b ∈ fys.flatten → b ∈ fp 1 := fun b hb => by rw [e3]; exact List.mem_append_right _ hb
  have hnd : (fp 0 ++ fys.flatten).Nodup := by
    have d01 := d 0 1 (by omega) (by simp) (by simp)
    rw [e3] at q2
    exact Dj.nodup (fun b hb hb2 => d01 b hb (hsub b hb2)) p2 (List.nodup_append.1 q2).2.1
  refine appS_StringSS hgd s x ho hv p1 e1 (by rw [hx]; exact e2) hnd hlen (fun v' w' fp' k1 k2 k3 k4 => ?_)
  obtain ⟨sa, sn, sc, rfl⟩ := ow_slice k1
  refine h sa sn sc w' ⟨B.trans (k4.below (fun b hb => (p3 b hb).1) B.size), fun i => match i with | 0 => fp' | i + 1 => fp (i + 2), fun i Q hQ => ?_, fun i j hij hi hj => ?_⟩
  · cases i with
    | zero =>
      obtain rfl : _ = Q := by simpa using hQ
      refine ⟨k1, k2, fun b hm => ⟨?_, Enc.ow_lt _ k1 b hm⟩⟩
      rcases k3 b hm with h1 | h1 | h1
      · exact (p3 b h1).1
      · exact (q3 b (hsub b h1)).1
      · have := B.size; omega
    | succ i =>
      have hQ' : ps[i]? = some Q := by simpa using hQ
      obtain ⟨h1, h2, h3⟩ := hh (i + 2) Q hQ'
      have hil := (List.getElem?_eq_some_iff.1 hQ').1
      refine ⟨Q.frame (fun b hm => k4.block b (h3 b hm).2 (fun hf => ?_)) h1, h2, fun b hm => ⟨(h3 b hm).1, Nat.lt_of_lt_of_le (h3 b hm).2 k4.size⟩⟩
      exact d 0 (i + 2) (by omega) (by simp) (by simpa using hil) b hf hm
  · have hd0 : ∀ i, i < ps.length → Dj fp' (fp (i + 2)) := by
      intro i hi b hb1 hb2
      rcases k3 b hb1 with h1 | h1 | h1
      · exact d 0 (i + 2) (by omega) (by simp) (by simpa using hi) b h1 hb2
      · exact d 1 (i + 2) (by omega) (by simp) (by simpa using hi) b (hsub b h1) hb2
      · have := ((hh (i + 2) _ (by rw [List.getElem?_cons_succ, List.getElem?_cons_succ]; exact List.getElem?_eq_getElem hi)).2.2 b hb2).2
        omega
    cases i with
    | zero =>
      cases j with
      | zero => exact absurd rfl hij
      | succ j => exact hd0 j (by simpa using hj)
    | succ i =>
      cases j with
      | zero => exact (hd0 i (by simpa using hi)).symm
      | succ j => exact d (i + 2) (j + 2) (by omega) (by simpa using hi) (by simpa using hj)

theorem mix_get {α β : Type} (f g : α → β) (l : List α) (j : Nat) (hj : j < l.length) : ((l.take j).map f ++ (l.drop j).map g)[j]? = some (g l[j]) := by
  have h1 : ((l.take j).map f).length = j := by rw [List.length_map, List.length_take]; omega
  rw [List.getElem?_append_right (by omega), h1, Nat.sub_self, List.drop_eq_getElem_cons hj]
  rfl
theorem mix_set {α β : Type} (f g : α → β) (l : List α) (j : Nat) (hj : j < l.length) : ((l.take j).map f ++ (l.drop j).map g).set j (f l[j]) = (l.take (j + 1)).map f ++ (l.drop (j + 1)).map g := by
  have h1 : ((l.take j).map f).length = j := by rw [List.length_map, List.length_take]; omega
  rw [List.set_append_right _ _ (by omega), h1, Nat.sub_self, List.drop_eq_getElem_cons hj, List.take_succ_eq_append_getElem hj, List.map_append, List.map_cons, List.set_cons_zero, List.append_assoc]
  rfl
theorem mix_same {α β : Type} (f g : α → β) (l : List α) (j : Nat) (hj : j < l.length) (h : f l[j] = g l[j]) : (l.take (j + 1)).map f ++ (l.drop (j + 1)).map g = (l.take j).map f ++ (l.drop j).map g := by
  rw [List.drop_eq_getElem_cons hj, List.take_succ_eq_append_getElem hj, List.map_append, List.map_cons, List.append_assoc, h]
  rfl
theorem mix_len {α β : Type} (f g : α → β) (l : List α) (j : Nat) : ((l.take j).map f ++ (l.drop j).map g).length = l.length := by
  rw [List.length_append, List.length_map, List.length_map, List.length_take, List.length_drop]
  omega

theorem ow_slice0 {α : Type} {E : Enc α} {ty : TypeId} {w : World} {v : Value} {l : List α} {f : List Nat} (o : (sliceE E ty).ow w [v] l f) (hl : 0 < l.length) :
    ∃ g c, v = .slice (some ⟨g, 0, none⟩) l.length c ∧ l.length ≤ c ∧ c ≤ maxLen ∧ (∀ i, w.frozen? ⟨g, i, none⟩ = false) ∧ ∀ i x, l[i]? = some x → ∃ xs, E.rd w w.heap.size xs x ∧ (∃ f', E.ow w xs x f') ∧ ∀ j u, xs[j]? = some u → w.cell? ⟨g, i * E.size + j, none⟩ = some u := by
  obtain ⟨v', xss, fps, he, h1, h2, -⟩ := o
  simp only [List.cons.injEq, and_true] at he
  subst he
  obtain ⟨hx, h3⟩ := h2
  rcases h3 with ⟨-, h3⟩ | ⟨g, cap, cur, rfl, hg, hh, hc, hm, hs, ht⟩
  · omega
  have hB : Blk w g cur.toList ty := by unfold Blk; rw [hh]
  refine ⟨g, cap, rfl, hc, hm, hB.free, fun i x hi => ?_⟩
  obtain ⟨xs, f, e1, e2, e3, e4, e5⟩ := h1.rdAt (B := w.heap.size) (h1.lt) i x hi
  refine ⟨xs, e4, ⟨f, e3⟩, fun j u hu => ?_⟩
  have := e5 j u hu
  rw [← ht, List.getElem?_take] at this
  split at this
  · exact hB.cell _ (by simpa using this)
  · cases this

/-- A slice of slices of one's own, and one of its rows. -/
theorem Star.rows {w0 w : World} {ps : List Ob} (S : Star w0 w ps) (n : Nat) {α : Type} {E : Enc α} {ty te : TypeId} {v : Value} {l : List (List α)} (h : ps[n]? = some (oE (sliceE (sliceE E te) ty) [v] l)) (hl : 0 < l.length) :
    ∃ g c, v = .slice (some ⟨g, 0, none⟩) l.length c ∧ l.length ≤ c ∧ c ≤ maxLen ∧ (∀ i, w.frozen? ⟨g, i, none⟩ = false) ∧ ∀ i x, l[i]? = some x → 0 < x.length →
      ∃ rb rc, w.cell? ⟨g, i, none⟩ = some (.slice (some ⟨rb, 0, none⟩) x.length rc) ∧ x.length ≤ rc ∧ rc ≤ maxLen ∧ (∀ k, w.frozen? ⟨rb, k, none⟩ = false) ∧ ∀ k y, x[k]? = some y → ∃ ys, E.rd w w.heap.size ys y ∧ ∀ j u, ys[j]? = some u → w.cell? ⟨rb, k * E.size + j, none⟩ = some u := by
  obtain ⟨f, o⟩ := S.own n h
  obtain ⟨g, c, rfl, h1, h2, h3, h4⟩ := ow_slice0 o hl
  refine ⟨g, c, rfl, h1, h2, h3, fun i x hi hx => ?_⟩
  obtain ⟨xs, r1, ⟨f', o'⟩, r2⟩ := h4 i x hi
  obtain ⟨u, rfl⟩ := one_of (Enc.rd_len _ r1)
  obtain ⟨rb, rc, rfl, k1, k2, k3, k4⟩ := ow_slice0 o' hx
  refine ⟨rb, rc, ?_, k1, k2, k3, fun k y hy => ?_⟩
  · have := r2 0 _ rfl
    rwa [show (sliceE E te).size = 1 from rfl, Nat.mul_one, Nat.add_zero] at this
  · obtain ⟨ys, e1, -, e2⟩ := k4 k y hy
    exact ⟨ys, e1, e2⟩

theorem rd_move2 {w : World} {B : Nat} {cs : List Value} {m : Move} (h : moveE.rd w B cs m) : cs = [.int .i64 m.to, .int .i64 m.dir] ∧ (-9223372036854775808 ≤ m.to ∧ m.to ≤ 9223372036854775807) ∧ (-9223372036854775808 ≤ m.dir ∧ m.dir ≤ 9223372036854775807) := by
  obtain ⟨c1, c2, rfl, h1, h2⟩ := h
  obtain ⟨e1, b1⟩ := h1
  obtain ⟨e2, b2⟩ := h2
  exact ⟨by rw [e1, e2]; rfl, b1, b2⟩

theorem rd_s1p {α : Type} [Inhabited α] {E : Enc α} {ty : TypeId} {w : World} {B : Nat} {v : Value} {l : List α} (hs : E.size = 1) (h : (sliceE E ty).rd w B [v] l) (hl : 0 < l.length) :
    ∃ b o cap, v = .slice (some ⟨b, o, none⟩) l.length cap ∧ l.length ≤ cap ∧ cap ≤ 9223372036854775807 ∧
      ∀ k, k < l.length → ∃ vk, w.cell? ⟨b, o + k, none⟩ = some vk ∧ E.rd w B [vk] (l[k]?.getD default) := by
  obtain ⟨a, cap, rfl, h1, h2, -, h4⟩ := rd_slice1 hs h
  obtain ⟨b, o, v0, rfl, -, -, -⟩ := h4 0 hl
  refine ⟨b, o, cap, rfl, h1, h2, fun k hk => ?_⟩
  obtain ⟨b', o', vk, e, -, h6, h7⟩ := h4 k hk
  cases e
  exact ⟨vk, h6, h7⟩

end Go.Proofs.YtcifdkliiljmkaaGreatDoor
