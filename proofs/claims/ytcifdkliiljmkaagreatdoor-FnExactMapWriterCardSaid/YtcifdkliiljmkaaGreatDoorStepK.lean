/-
  append on values of one's own as a step of a region that draws its order (written by a program of this claim's own, gen_step.py, out of the texts of the walk's laws).
-/
import Derived.Test.YtcifdkliiljmkaaGreatDoorStarJK
import Derived.Deep.RegionLaw
import Derived.Deep.RegionHeld3
namespace Go.Proofs.YtcifdkliiljmkaaGreatDoor
open Go.RowKit

theorem step_append_enc {α : Type} {E : Enc α} {ty : TypeId} {P : Program} {w : World} {ops : Array Oper} {o : Oper} {a : Act} {K : Act → World → Prop} {Q : Exit → Act → World → Prop} {X : Prop} (hgd : o.guard = none) (s x : Operand) (t : TypeId)
    (ho : o.op = .call { callee := .builtin .append, args := #[s, x], argTypes := #[t, t] })
    (i : TypeInfo) (z : Value) (bytes : Nat) (ht : P.underlying t = some (.slice ty)) (hi : P.info? ty = some i) (hz : i.zero = some z)
    (hsize : i.size = E.size) (hby : i.bytes = bytes) (hzs : z.cells.size = E.size) (hsz : 0 < E.size) {v : Value} {l : List α} {fp : List Nat} (hv : a.eval s = v) (hown : (sliceE E ty).ow w [v] l fp)
    {ys : List α} {css : List (List Value)} {fys : List (List Nat)} (hys : OwAll E w ys css fys) (hs : SrcS w E.size (a.eval x) ys.length css.flatten) (hd : (fp ++ fys.flatten).Nodup)
    (h63 : l.length + ys.length ≤ maxLen) (hbytes : (l.length + ys.length) * bytes ≤ 140737488355328)
    (h : ∀ v' w' fp', (sliceE E ty).ow w' [v'] (l ++ ys) fp' → fp'.Nodup → (∀ b, b ∈ fp' → b ∈ fp ∨ b ∈ fys.flatten ∨ w.heap.size ≤ b) → But fp w w' → K (a.put o.dst v') w') : if Region.wanted o (yielded ops a.tmps) = true then Oper.wp P o a w K Q else X := by
  obtain ⟨v', w', fp', hr, k1, k2, k3, k4, -⟩ := own_append (P := P) w t o.type i z bytes ht hi hz hsize hby hzs hsz hown (a.eval x) hys hs hd h63 hbytes
  rw [if_pos (by simp [Region.wanted, hgd])]
  unfold Oper.wp execOp
  simp only [ho, resolve, invoke, builtin, Sem.run_bind, Sem.run_pure, Result.andThen_ok, List.map_toArray, List.map_cons, List.map_nil, hv, hr]
  exact (h v' w' fp' k1 k2 k3 k4)

theorem step_append_one {α : Type} {E : Enc α} {ty : TypeId} {P : Program} {w : World} {ops : Array Oper} {o : Oper} {a : Act} {K : Act → World → Prop} {Q : Exit → Act → World → Prop} {X : Prop} (hgd : o.guard = none) (s x : Operand) (t : TypeId)
    (ho : o.op = .call { callee := .builtin .append, args := #[s, x], argTypes := #[t, t] })
    (i : TypeInfo) (z : Value) (bytes : Nat) (ht : P.underlying t = some (.slice ty)) (hi : P.info? ty = some i) (hz : i.zero = some z)
    (hsize : i.size = E.size) (hby : i.bytes = bytes) (hzs : z.cells.size = E.size) (hsz : 0 < E.size) (hb64 : bytes ≤ 64) {v : Value} {l : List α} {fp : List Nat} (hv : a.eval s = v) (hown : (sliceE E ty).ow w [v] l fp) (hn : fp.Nodup)
    {g c : Nat} (hx : a.eval x = .slice (some ⟨g, 0, none⟩) 1 c) {y : α} {cs : List Value} {fy : List Nat} (hc : ∀ j u, cs[j]? = some u → w.cell? ⟨g, j, none⟩ = some u) (h1 : ∀ u, u ∈ cs → u.oneCell' = true) (hy : E.ow w cs y fy)
    (hny : fy.Nodup) (hd : ∀ b, b ∈ fy → b ∉ fp) (hlen : l.length ≤ 1000000000000)
    (h : ∀ v' w' fp', (sliceE E ty).ow w' [v'] (l ++ [y]) fp' → fp'.Nodup → (∀ b, b ∈ fp' → b ∈ fp ∨ b ∈ fy ∨ w.heap.size ≤ b) → But fp w w' → K (a.put o.dst v') w') : if Region.wanted o (yielded ops a.tmps) = true then Oper.wp P o a w K Q else X := by
  have hcl : cs.length = E.size := E.rd_len (E.rd_ow hy)
  have hb : (l.length + [y].length) * bytes ≤ 140737488355328 := by
    have : (l.length + [y].length) * bytes ≤ 1000000000001 * 64 := Nat.mul_le_mul (by simp; omega) hb64
    omega
  refine step_append_enc (E := E) (ty := ty) hgd s x t ho i z bytes ht hi hz hsize hby hzs hsz hv hown (OwAll.one hy) ?_ ?_ (by simp [maxLen]; omega) hb (fun v' w' fp' k1 k2 k3 k4 => h v' w' fp' k1 k2 (fun b hb => by have := k3 b hb; simpa using this) k4)
  · rw [hx]
    exact SrcS.one (ad := ⟨g, 0, none⟩) hcl (fun j u hu => by rw [Addr.add_lit]; simpa using hc j u hu) h1
  · rw [List.nodup_append]
    exact ⟨hn, by simpa using hny, fun p hp q hq e => hd q (by simpa using hq) (e ▸ hp)⟩

theorem sapp1_Int64S {w : World} {ops : Array Oper} {o : Oper} {a : Act} {K : Act → World → Prop} {Q : Exit → Act → World → Prop} {X : Prop} (hgd : o.guard = none) (s x : Operand)
    (ho : o.op = .call { callee := .builtin .append, args := #[s, x], argTypes := #[89, 89] }) {v : Value} {l : List _} {fp : List Nat} (hv : a.eval s = v) (hown : (sliceE intE 2).ow w [v] l fp) (hn : fp.Nodup)
    {g c : Nat} (hx : a.eval x = .slice (some ⟨g, 0, none⟩) 1 c) {y : _} {cs : List Value} {fy : List Nat} (hc : ∀ j u, cs[j]? = some u → w.cell? ⟨g, j, none⟩ = some u) (h1 : ∀ u, u ∈ cs → u.oneCell' = true) (hy : (intE).ow w cs y fy)
    (hny : fy.Nodup) (hd : ∀ b, b ∈ fy → b ∉ fp) (hlen : l.length ≤ 1000000000000)
    (h : ∀ v' w' fp', (sliceE intE 2).ow w' [v'] (l ++ [y]) fp' → fp'.Nodup → (∀ b, b ∈ fp' → b ∈ fp ∨ b ∈ fy ∨ w.heap.size ≤ b) → But fp w w' → K (a.put o.dst v') w') : if Region.wanted o (yielded ops a.tmps) = true then Oper.wp Tryz.prog o a w K Q else X := by
  obtain ⟨i0, hi, hz0, hz1, hz2⟩ := info_parts inf_Int64S
  exact step_append_one (E := intE) (ty := 2) hgd s x _ ho i0 _ _ Tryz.underlying89 hi hz0 hz1 hz2 rfl (by decide) (by decide) hv hown hn hx hc h1 hy hny hd hlen h

theorem sappS_Int64S {w : World} {ops : Array Oper} {o : Oper} {a : Act} {K : Act → World → Prop} {Q : Exit → Act → World → Prop} {X : Prop} (hgd : o.guard = none) (s x : Operand)
    (ho : o.op = .call { callee := .builtin .append, args := #[s, x], argTypes := #[89, 89] }) {v : Value} {l : List _} {fp : List Nat} (hv : a.eval s = v) (hown : (sliceE intE 2).ow w [v] l fp)
    {ys : List _} {css : List (List Value)} {fys : List (List Nat)} (hys : OwAll (intE) w ys css fys) (hs : SrcS w (intE).size (a.eval x) ys.length css.flatten) (hd : (fp ++ fys.flatten).Nodup) (hlen : l.length + ys.length ≤ 1000000000000)
    (h : ∀ v' w' fp', (sliceE intE 2).ow w' [v'] (l ++ ys) fp' → fp'.Nodup → (∀ b, b ∈ fp' → b ∈ fp ∨ b ∈ fys.flatten ∨ w.heap.size ≤ b) → But fp w w' → K (a.put o.dst v') w') : if Region.wanted o (yielded ops a.tmps) = true then Oper.wp Tryz.prog o a w K Q else X := by
  obtain ⟨i0, hi, hz0, hz1, hz2⟩ := info_parts inf_Int64S
  exact step_append_enc (E := intE) (ty := 2) hgd s x _ ho i0 _ _ Tryz.underlying89 hi hz0 hz1 hz2 rfl (by decide) hv hown hys hs hd (by simp only [maxLen]; omega) (by omega) h

theorem sst1_Int64S {w0 w : World} {ps : List Ob} {ops : Array Oper} {o : Oper} {a : Act} {K : Act → World → Prop} {Q : Exit → Act → World → Prop} {X : Prop} {s x : Operand} {v : Value} {l : List (Int)} {b c : Nat} {y : Int} {cs : List Value}
    (S : Star w0 w (oE (sliceE intE 2) [v] l :: oE intE cs y :: ps)) (hgd : o.guard = none)
    (ho : o.op = .call { callee := .builtin .append, args := #[s, x], argTypes := #[89, 89] }) (hv : a.eval s = v)
    (hx : a.eval x = .slice (some ⟨b, 0, none⟩) 1 c) (hc : ∀ j u, cs[j]? = some u → w.cell? ⟨b, j, none⟩ = some u) (h1 : ∀ u, u ∈ cs → u.oneCell' = true) (hlen : l.length ≤ 1000000000000)
    (h : ∀ sa sn sc w', Star w0 w' (oE (sliceE intE 2) [.slice sa sn sc] (l ++ [y]) :: ps) → K (a.put o.dst (.slice sa sn sc)) w') : if Region.wanted o (yielded ops a.tmps) = true then Oper.wp Tryz.prog o a w K Q else X := by
  obtain ⟨B, fp, hh, d⟩ := S
  obtain ⟨p1, p2, p3⟩ := hh 0 _ rfl
  obtain ⟨q1, q2, q3⟩ := hh 1 _ rfl
  have d01 := d 1 0 (by omega) (by simp) (by simp)
  refine sapp1_Int64S hgd s x ho hv p1 p2 hx hc h1 q1 q2 d01 hlen (fun v' w' fp' k1 k2 k3 k4 => ?_)
  obtain ⟨sa, sn, sc, rfl⟩ := ow_slice k1
  refine h sa sn sc w' ⟨B.trans (k4.below (fun b hb => (p3 b hb).1) B.size), fun i => match i with | 0 => fp' | i + 1 => fp (i + 2), fun i Q hQ => ?_, fun i j hij hi hj => ?_⟩
  · cases i with
    | zero =>
      obtain rfl : _ = Q := by simpa using hQ
      refine ⟨k1, k2, fun b hm => ⟨?_, Enc.ow_lt _ k1 b hm⟩⟩
      rcases k3 b hm with h1 | h1 | h1
      · exact (p3 b h1).1
      · exact (q3 b h1).1
      · have := B.size; omega
    | succ i =>
      have hQ' : ps[i]? = some Q := by simpa using hQ
      obtain ⟨h1, h2, h3⟩ := hh (i + 2) Q hQ'
      have hil := (List.getElem?_eq_some_iff.1 hQ').1
      refine ⟨Q.frame (fun b hm => k4.block b (h3 b hm).2 (fun hf => ?_)) h1, h2, fun b hm => ⟨(h3 b hm).1, Nat.lt_of_lt_of_le (h3 b hm).2 k4.size⟩⟩
      exact d 0 (i + 2) (by omega) (by simp) (by simpa using hil) b hf hm
  · have hd0 : ∀ i, i < ps.length → Dj fp' (fp (i + 2)) := by
      intro i hi b hb1 hb2
      rcases k3 b hb1 with h1 | h1 | h1
      · exact d 0 (i + 2) (by omega) (by simp) (by simpa using hi) b h1 hb2
      · exact d 1 (i + 2) (by omega) (by simp) (by simpa using hi) b h1 hb2
      · have := ((hh (i + 2) _ (by rw [List.getElem?_cons_succ, List.getElem?_cons_succ]; exact List.getElem?_eq_getElem hi)).2.2 b hb2).2
        omega
    cases i with
    | zero =>
      cases j with
      | zero => exact absurd rfl hij
      | succ j => exact hd0 j (by simpa using hj)
    | succ i =>
      cases j with
      | zero => exact (hd0 i (by simpa using hi)).symm
      | succ j => exact d (i + 2) (j + 2) (by omega) (by simpa using hi) (by simpa using hj)

theorem sstS_Int64S {w0 w : World} {ps : List Ob} {ops : Array Oper} {o : Oper} {a : Act} {K : Act → World → Prop} {Q : Exit → Act → World → Prop} {X : Prop} {s x : Operand} {v : Value} {l : List (Int)} {ys : List (Int)} {css : List (List Value)} {fys : List (List Nat)}
    (S : Star w0 w (oE (sliceE intE 2) [v] l :: ps)) (hgd : o.guard = none)
    (ho : o.op = .call { callee := .builtin .append, args := #[s, x], argTypes := #[89, 89] }) (hv : a.eval s = v)
    (hys : OwAll (intE) w ys css fys) (hfy : fys.flatten = []) (hs : SrcS w (intE).size (a.eval x) ys.length css.flatten) (hlen : l.length + ys.length ≤ 1000000000000)
    (h : ∀ sa sn sc w', Star w0 w' (oE (sliceE intE 2) [.slice sa sn sc] (l ++ ys) :: ps) → K (a.put o.dst (.slice sa sn sc)) w') : if Region.wanted o (yielded ops a.tmps) = true then Oper.wp Tryz.prog o a w K Q else X := by
  obtain ⟨B, fp, hh, d⟩ := S
  obtain ⟨p1, p2, p3⟩ := hh 0 _ rfl
  refine sappS_Int64S hgd s x ho hv p1 hys hs (by rw [hfy, List.append_nil]; exact p2) hlen (fun v' w' fp' k1 k2 k3 k4 => ?_)
  rw [hfy] at k3
  obtain ⟨sa, sn, sc, rfl⟩ := ow_slice k1
  refine h sa sn sc w' ⟨B.trans (k4.below (fun b hb => (p3 b hb).1) B.size), fun i => match i with | 0 => fp' | i + 1 => fp (i + 1), fun i Q hQ => ?_, fun i j hij hi hj => ?_⟩
  · cases i with
    | zero =>
      obtain rfl : _ = Q := by simpa using hQ
      refine ⟨k1, k2, fun b hm => ⟨?_, Enc.ow_lt _ k1 b hm⟩⟩
      rcases k3 b hm with h1 | h1 | h1
      · exact (p3 b h1).1
      · cases h1
      · have := B.size; omega
    | succ i =>
      have hQ' : ps[i]? = some Q := by simpa using hQ
      obtain ⟨h1, h2, h3⟩ := hh (i + 1) Q hQ'
      have hil := (List.getElem?_eq_some_iff.1 hQ').1
      refine ⟨Q.frame (fun b hm => k4.block b (h3 b hm).2 (fun hf => ?_)) h1, h2, fun b hm => ⟨(h3 b hm).1, Nat.lt_of_lt_of_le (h3 b hm).2 k4.size⟩⟩
      exact d 0 (i + 1) (by omega) (by simp) (by simpa using hil) b hf hm
  · have hd0 : ∀ i, i < ps.length → Dj fp' (fp (i + 1)) := by
      intro i hi b hb1 hb2
      rcases k3 b hb1 with h1 | h1 | h1
      · exact d 0 (i + 1) (by omega) (by simp) (by simpa using hi) b h1 hb2
      · cases h1
      · have := ((hh (i + 1) _ (by rw [List.getElem?_cons_succ]; exact List.getElem?_eq_getElem hi)).2.2 b hb2).2
        omega
    cases i with
    | zero =>
      cases j with
      | zero => exact absurd rfl hij
      | succ j => exact hd0 j (by simpa using hj)
    | succ i =>
      cases j with
      | zero => exact (hd0 i (by simpa using hi)).symm
      | succ j => exact d (i + 1) (j + 1) (by omega) (by simpa using hi) (by simpa using hj)

theorem sapp1_Int64SS {w : World} {ops : Array Oper} {o : Oper} {a : Act} {K : Act → World → Prop} {Q : Exit → Act → World → Prop} {X : Prop} (hgd : o.guard = none) (s x : Operand)
    (ho : o.op = .call { callee := .builtin .append, args := #[s, x], argTypes := #[29, 29] }) {v : Value} {l : List _} {fp : List Nat} (hv : a.eval s = v) (hown : (sliceE intsE 89).ow w [v] l fp) (hn : fp.Nodup)
    {g c : Nat} (hx : a.eval x = .slice (some ⟨g, 0, none⟩) 1 c) {y : _} {cs : List Value} {fy : List Nat} (hc : ∀ j u, cs[j]? = some u → w.cell? ⟨g, j, none⟩ = some u) (h1 : ∀ u, u ∈ cs → u.oneCell' = true) (hy : (intsE).ow w cs y fy)
    (hny : fy.Nodup) (hd : ∀ b, b ∈ fy → b ∉ fp) (hlen : l.length ≤ 1000000000000)
    (h : ∀ v' w' fp', (sliceE intsE 89).ow w' [v'] (l ++ [y]) fp' → fp'.Nodup → (∀ b, b ∈ fp' → b ∈ fp ∨ b ∈ fy ∨ w.heap.size ≤ b) → But fp w w' → K (a.put o.dst v') w') : if Region.wanted o (yielded ops a.tmps) = true then Oper.wp Tryz.prog o a w K Q else X := by
  obtain ⟨i0, hi, hz0, hz1, hz2⟩ := info_parts inf_Int64SS
  exact step_append_one (E := intsE) (ty := 89) hgd s x _ ho i0 _ _ Tryz.underlying29 hi hz0 hz1 hz2 rfl (by decide) (by decide) hv hown hn hx hc h1 hy hny hd hlen h

theorem sappS_Int64SS {w : World} {ops : Array Oper} {o : Oper} {a : Act} {K : Act → World → Prop} {Q : Exit → Act → World → Prop} {X : Prop} (hgd : o.guard = none) (s x : Operand)
    (ho : o.op = .call { callee := .builtin .append, args := #[s, x], argTypes := #[29, 29] }) {v : Value} {l : List _} {fp : List Nat} (hv : a.eval s = v) (hown : (sliceE intsE 89).ow w [v] l fp)
    {ys : List _} {css : List (List Value)} {fys : List (List Nat)} (hys : OwAll (intsE) w ys css fys) (hs : SrcS w (intsE).size (a.eval x) ys.length css.flatten) (hd : (fp ++ fys.flatten).Nodup) (hlen : l.length + ys.length ≤ 1000000000000)
    (h : ∀ v' w' fp', (sliceE intsE 89).ow w' [v'] (l ++ ys) fp' → fp'.Nodup → (∀ b, b ∈ fp' → b ∈ fp ∨ b ∈ fys.flatten ∨ w.heap.size ≤ b) → But fp w w' → K (a.put o.dst v') w') : if Region.wanted o (yielded ops a.tmps) = true then Oper.wp Tryz.prog o a w K Q else X := by
  obtain ⟨i0, hi, hz0, hz1, hz2⟩ := info_parts inf_Int64SS
  exact step_append_enc (E := intsE) (ty := 89) hgd s x _ ho i0 _ _ Tryz.underlying29 hi hz0 hz1 hz2 rfl (by decide) hv hown hys hs hd (by simp only [maxLen]; omega) (by omega) h

theorem sst1_Int64SS {w0 w : World} {ps : List Ob} {ops : Array Oper} {o : Oper} {a : Act} {K : Act → World → Prop} {Q : Exit → Act → World → Prop} {X : Prop} {s x : Operand} {v : Value} {l : List (List Int)} {b c : Nat} {y : List Int} {cs : List Value}
    (S : Star w0 w (oE (sliceE intsE 89) [v] l :: oE intsE cs y :: ps)) (hgd : o.guard = none)
    (ho : o.op = .call { callee := .builtin .append, args := #[s, x], argTypes := #[29, 29] }) (hv : a.eval s = v)
    (hx : a.eval x = .slice (some ⟨b, 0, none⟩) 1 c) (hc : ∀ j u, cs[j]? = some u → w.cell? ⟨b, j, none⟩ = some u) (h1 : ∀ u, u ∈ cs → u.oneCell' = true) (hlen : l.length ≤ 1000000000000)
    (h : ∀ sa sn sc w', Star w0 w' (oE (sliceE intsE 89) [.slice sa sn sc] (l ++ [y]) :: ps) → K (a.put o.dst (.slice sa sn sc)) w') : if Region.wanted o (yielded ops a.tmps) = true then Oper.wp Tryz.prog o a w K Q else X := by
  obtain ⟨B, fp, hh, d⟩ := S
  obtain ⟨p1, p2, p3⟩ := hh 0 _ rfl
  obtain ⟨q1, q2, q3⟩ := hh 1 _ rfl
  have d01 := d 1 0 (by omega) (by simp) (by simp)
  refine sapp1_Int64SS hgd s x ho hv p1 p2 hx hc h1 q1 q2 d01 hlen (fun v' w' fp' k1 k2 k3 k4 => ?_)
  obtain ⟨sa, sn, sc, rfl⟩ := ow_slice k1
  refine h sa sn sc w' ⟨B.trans (k4.below (fun b hb => (p3 b hb).1) B.size), fun i => match i with | 0 => fp' | i + 1 => fp (i + 2), fun i Q hQ => ?_, fun i j hij hi hj => ?_⟩
  · cases i with
    | zero =>
      obtain rfl : _ = Q := by simpa using hQ
      refine ⟨k1, k2, fun b hm => ⟨?_, Enc.ow_lt _ k1 b hm⟩⟩
      rcases k3 b hm with h1 | h1 | h1
      · exact (p3 b h1).1
      · exact (q3 b h1).1
      · have := B.size; omega
    | succ i =>
      have hQ' : ps[i]? = some Q := by simpa using hQ
      obtain ⟨h1, h2, h3⟩ := hh (i + 2) Q hQ'
      have hil := (List.getElem?_eq_some_iff.1 hQ').1
      refine ⟨Q.frame (fun b hm => k4.block b (h3 b hm).2 (fun hf => ?_)) h1, h2, fun b hm => ⟨(h3 b hm).1, Nat.lt_of_lt_of_le (h3 b hm).2 k4.size⟩⟩
      exact d 0 (i + 2) (by omega) (by simp) (by simpa using hil) b hf hm
  · have hd0 : ∀ i, i < ps.length → Dj fp' (fp (i + 2)) := by
      intro i hi b hb1 hb2
      rcases k3 b hb1 with h1 | h1 | h1
      · exact d 0 (i + 2) (by omega) (by simp) (by simpa using hi) b h1 hb2
      · exact d 1 (i + 2) (by omega) (by simp) (by simpa using hi) b h1 hb2
      · have := ((hh (i + 2) _ (by rw [List.getElem?_cons_succ, List.getElem?_cons_succ]; exact List.getElem?_eq_getElem hi)).2.2 b hb2).2
        omega
    cases i with
    | zero =>
      cases j with
      | zero => exact absurd rfl hij
      | succ j => exact hd0 j (by simpa using hj)
    | succ i =>
      cases j with
      | zero => exact (hd0 i (by simpa using hi)).symm
      | succ j => exact d (i + 2) (j + 2) (by omega) (by simpa using hi) (by simpa using hj)

theorem sapp1_BoolS {w : World} {ops : Array Oper} {o : Oper} {a : Act} {K : Act → World → Prop} {Q : Exit → Act → World → Prop} {X : Prop} (hgd : o.guard = none) (s x : Operand)
    (ho : o.op = .call { callee := .builtin .append, args := #[s, x], argTypes := #[28, 28] }) {v : Value} {l : List _} {fp : List Nat} (hv : a.eval s = v) (hown : (sliceE boolE 4).ow w [v] l fp) (hn : fp.Nodup)
    {g c : Nat} (hx : a.eval x = .slice (some ⟨g, 0, none⟩) 1 c) {y : _} {cs : List Value} {fy : List Nat} (hc : ∀ j u, cs[j]? = some u → w.cell? ⟨g, j, none⟩ = some u) (h1 : ∀ u, u ∈ cs → u.oneCell' = true) (hy : (boolE).ow w cs y fy)
    (hny : fy.Nodup) (hd : ∀ b, b ∈ fy → b ∉ fp) (hlen : l.length ≤ 1000000000000)
    (h : ∀ v' w' fp', (sliceE boolE 4).ow w' [v'] (l ++ [y]) fp' → fp'.Nodup → (∀ b, b ∈ fp' → b ∈ fp ∨ b ∈ fy ∨ w.heap.size ≤ b) → But fp w w' → K (a.put o.dst v') w') : if Region.wanted o (yielded ops a.tmps) = true then Oper.wp Tryz.prog o a w K Q else X := by
  obtain ⟨i0, hi, hz0, hz1, hz2⟩ := info_parts inf_BoolS
  exact step_append_one (E := boolE) (ty := 4) hgd s x _ ho i0 _ _ Tryz.underlying28 hi hz0 hz1 hz2 rfl (by decide) (by decide) hv hown hn hx hc h1 hy hny hd hlen h

theorem sappS_BoolS {w : World} {ops : Array Oper} {o : Oper} {a : Act} {K : Act → World → Prop} {Q : Exit → Act → World → Prop} {X : Prop} (hgd : o.guard = none) (s x : Operand)
    (ho : o.op = .call { callee := .builtin .append, args := #[s, x], argTypes := #[28, 28] }) {v : Value} {l : List _} {fp : List Nat} (hv : a.eval s = v) (hown : (sliceE boolE 4).ow w [v] l fp)
    {ys : List _} {css : List (List Value)} {fys : List (List Nat)} (hys : OwAll (boolE) w ys css fys) (hs : SrcS w (boolE).size (a.eval x) ys.length css.flatten) (hd : (fp ++ fys.flatten).Nodup) (hlen : l.length + ys.length ≤ 1000000000000)
    (h : ∀ v' w' fp', (sliceE boolE 4).ow w' [v'] (l ++ ys) fp' → fp'.Nodup → (∀ b, b ∈ fp' → b ∈ fp ∨ b ∈ fys.flatten ∨ w.heap.size ≤ b) → But fp w w' → K (a.put o.dst v') w') : if Region.wanted o (yielded ops a.tmps) = true then Oper.wp Tryz.prog o a w K Q else X := by
  obtain ⟨i0, hi, hz0, hz1, hz2⟩ := info_parts inf_BoolS
  exact step_append_enc (E := boolE) (ty := 4) hgd s x _ ho i0 _ _ Tryz.underlying28 hi hz0 hz1 hz2 rfl (by decide) hv hown hys hs hd (by simp only [maxLen]; omega) (by omega) h

theorem sst1_BoolS {w0 w : World} {ps : List Ob} {ops : Array Oper} {o : Oper} {a : Act} {K : Act → World → Prop} {Q : Exit → Act → World → Prop} {X : Prop} {s x : Operand} {v : Value} {l : List (Bool)} {b c : Nat} {y : Bool} {cs : List Value}
    (S : Star w0 w (oE (sliceE boolE 4) [v] l :: oE boolE cs y :: ps)) (hgd : o.guard = none)
    (ho : o.op = .call { callee := .builtin .append, args := #[s, x], argTypes := #[28, 28] }) (hv : a.eval s = v)
    (hx : a.eval x = .slice (some ⟨b, 0, none⟩) 1 c) (hc : ∀ j u, cs[j]? = some u → w.cell? ⟨b, j, none⟩ = some u) (h1 : ∀ u, u ∈ cs → u.oneCell' = true) (hlen : l.length ≤ 1000000000000)
    (h : ∀ sa sn sc w', Star w0 w' (oE (sliceE boolE 4) [.slice sa sn sc] (l ++ [y]) :: ps) → K (a.put o.dst (.slice sa sn sc)) w') : if Region.wanted o (yielded ops a.tmps) = true then Oper.wp Tryz.prog o a w K Q else X := by
  obtain ⟨B, fp, hh, d⟩ := S
  obtain ⟨p1, p2, p3⟩ := hh 0 _ rfl
  obtain ⟨q1, q2, q3⟩ := hh 1 _ rfl
  have d01 := d 1 0 (by omega) (by simp) (by simp)
  refine sapp1_BoolS hgd s x ho hv p1 p2 hx hc h1 q1 q2 d01 hlen (fun v' w' fp' k1 k2 k3 k4 => ?_)
  obtain ⟨sa, sn, sc, rfl⟩ := ow_slice k1
  refine h sa sn sc w' ⟨B.trans (k4.below (fun b hb => (p3 b hb).1) B.size), fun i => match i with | 0 => fp' | i + 1 => fp (i + 2), fun i Q hQ => ?_, fun i j hij hi hj => ?_⟩
  · cases i with
    | zero =>
      obtain rfl : _ = Q := by simpa using hQ
      refine ⟨k1, k2, fun b hm => ⟨?_, Enc.ow_lt _ k1 b hm⟩⟩
      rcases k3 b hm with h1 | h1 | h1
      · exact (p3 b h1).1
      · exact (q3 b h1).1
      · have := B.size; omega
    | succ i =>
      have hQ' : ps[i]? = some Q := by simpa using hQ
      obtain ⟨h1, h2, h3⟩ := hh (i + 2) Q hQ'
      have hil := (List.getElem?_eq_some_iff.1 hQ').1
      refine ⟨Q.frame (fun b hm => k4.block b (h3 b hm).2 (fun hf => ?_)) h1, h2, fun b hm => ⟨(h3 b hm).1, Nat.lt_of_lt_of_le (h3 b hm).2 k4.size⟩⟩
      exact d 0 (i + 2) (by omega) (by simp) (by simpa using hil) b hf hm
  · have hd0 : ∀ i, i < ps.length → Dj fp' (fp (i + 2)) := by
      intro i hi b hb1 hb2
      rcases k3 b hb1 with h1 | h1 | h1
      · exact d 0 (i + 2) (by omega) (by simp) (by simpa using hi) b h1 hb2
      · exact d 1 (i + 2) (by omega) (by simp) (by simpa using hi) b h1 hb2
      · have := ((hh (i + 2) _ (by rw [List.getElem?_cons_succ, List.getElem?_cons_succ]; exact List.getElem?_eq_getElem hi)).2.2 b hb2).2
        omega
    cases i with
    | zero =>
      cases j with
      | zero => exact absurd rfl hij
      | succ j => exact hd0 j (by simpa using hj)
    | succ i =>
      cases j with
      | zero => exact (hd0 i (by simpa using hi)).symm
      | succ j => exact d (i + 2) (j + 2) (by omega) (by simpa using hi) (by simpa using hj)

theorem sstS_BoolS {w0 w : World} {ps : List Ob} {ops : Array Oper} {o : Oper} {a : Act} {K : Act → World → Prop} {Q : Exit → Act → World → Prop} {X : Prop} {s x : Operand} {v : Value} {l : List (Bool)} {ys : List (Bool)} {css : List (List Value)} {fys : List (List Nat)}
    (S : Star w0 w (oE (sliceE boolE 4) [v] l :: ps)) (hgd : o.guard = none)
    (ho : o.op = .call { callee := .builtin .append, args := #[s, x], argTypes := #[28, 28] }) (hv : a.eval s = v)
    (hys : OwAll (boolE) w ys css fys) (hfy : fys.flatten = []) (hs : SrcS w (boolE).size (a.eval x) ys.length css.flatten) (hlen : l.length + ys.length ≤ 1000000000000)
    (h : ∀ sa sn sc w', Star w0 w' (oE (sliceE boolE 4) [.slice sa sn sc] (l ++ ys) :: ps) → K (a.put o.dst (.slice sa sn sc)) w') : if Region.wanted o (yielded ops a.tmps) = true then Oper.wp Tryz.prog o a w K Q else X := by
  obtain ⟨B, fp, hh, d⟩ := S
  obtain ⟨p1, p2, p3⟩ := hh 0 _ rfl
  refine sappS_BoolS hgd s x ho hv p1 hys hs (by rw [hfy, List.append_nil]; exact p2) hlen (fun v' w' fp' k1 k2 k3 k4 => ?_)
  rw [hfy] at k3
  obtain ⟨sa, sn, sc, rfl⟩ := ow_slice k1
  refine h sa sn sc w' ⟨B.trans (k4.below (fun b hb => (p3 b hb).1) B.size), fun i => match i with | 0 => fp' | i + 1 => fp (i + 1), fun i Q hQ => ?_, fun i j hij hi hj => ?_⟩
  · cases i with
    | zero =>
      obtain rfl : _ = Q := by simpa using hQ
      refine ⟨k1, k2, fun b hm => ⟨?_, Enc.ow_lt _ k1 b hm⟩⟩
      rcases k3 b hm with h1 | h1 | h1
      · exact (p3 b h1).1
      · cases h1
      · have := B.size; omega
    | succ i =>
      have hQ' : ps[i]? = some Q := by simpa using hQ
      obtain ⟨h1, h2, h3⟩ := hh (i + 1) Q hQ'
      have hil := (List.getElem?_eq_some_iff.1 hQ').1
      refine ⟨Q.frame (fun b hm => k4.block b (h3 b hm).2 (fun hf => ?_)) h1, h2, fun b hm => ⟨(h3 b hm).1, Nat.lt_of_lt_of_le (h3 b hm).2 k4.size⟩⟩
      exact d 0 (i + 1) (by omega) (by simp) (by simpa using hil) b hf hm
  · have hd0 : ∀ i, i < ps.length → Dj fp' (fp (i + 1)) := by
      intro i hi b hb1 hb2
      rcases k3 b hb1 with h1 | h1 | h1
      · exact d 0 (i + 1) (by omega) (by simp) (by simpa using hi) b h1 hb2
      · cases h1
      · have := ((hh (i + 1) _ (by rw [List.getElem?_cons_succ]; exact List.getElem?_eq_getElem hi)).2.2 b hb2).2
        omega
    cases i with
    | zero =>
      cases j with
      | zero => exact absurd rfl hij
      | succ j => exact hd0 j (by simpa using hj)
    | succ i =>
      cases j with
      | zero => exact (hd0 i (by simpa using hi)).symm
      | succ j => exact d (i + 1) (j + 1) (by omega) (by simpa using hi) (by simpa using hj)

theorem sapp1_MoveS {w : World} {ops : Array Oper} {o : Oper} {a : Act} {K : Act → World → Prop} {Q : Exit → Act → World → Prop} {X : Prop} (hgd : o.guard = none) (s x : Operand)
    (ho : o.op = .call { callee := .builtin .append, args := #[s, x], argTypes := #[91, 91] }) {v : Value} {l : List _} {fp : List Nat} (hv : a.eval s = v) (hown : (sliceE moveE 93).ow w [v] l fp) (hn : fp.Nodup)
    {g c : Nat} (hx : a.eval x = .slice (some ⟨g, 0, none⟩) 1 c) {y : _} {cs : List Value} {fy : List Nat} (hc : ∀ j u, cs[j]? = some u → w.cell? ⟨g, j, none⟩ = some u) (h1 : ∀ u, u ∈ cs → u.oneCell' = true) (hy : (moveE).ow w cs y fy)
    (hny : fy.Nodup) (hd : ∀ b, b ∈ fy → b ∉ fp) (hlen : l.length ≤ 1000000000000)
    (h : ∀ v' w' fp', (sliceE moveE 93).ow w' [v'] (l ++ [y]) fp' → fp'.Nodup → (∀ b, b ∈ fp' → b ∈ fp ∨ b ∈ fy ∨ w.heap.size ≤ b) → But fp w w' → K (a.put o.dst v') w') : if Region.wanted o (yielded ops a.tmps) = true then Oper.wp Tryz.prog o a w K Q else X := by
  obtain ⟨i0, hi, hz0, hz1, hz2⟩ := info_parts inf_MoveS
  exact step_append_one (E := moveE) (ty := 93) hgd s x _ ho i0 _ _ Tryz.underlying91 hi hz0 hz1 hz2 rfl (by decide) (by decide) hv hown hn hx hc h1 hy hny hd hlen h

theorem sappS_MoveS {w : World} {ops : Array Oper} {o : Oper} {a : Act} {K : Act → World → Prop} {Q : Exit → Act → World → Prop} {X : Prop} (hgd : o.guard = none) (s x : Operand)
    (ho : o.op = .call { callee := .builtin .append, args := #[s, x], argTypes := #[91, 91] }) {v : Value} {l : List _} {fp : List Nat} (hv : a.eval s = v) (hown : (sliceE moveE 93).ow w [v] l fp)
    {ys : List _} {css : List (List Value)} {fys : List (List Nat)} (hys : OwAll (moveE) w ys css fys) (hs : SrcS w (moveE).size (a.eval x) ys.length css.flatten) (hd : (fp ++ fys.flatten).Nodup) (hlen : l.length + ys.length ≤ 1000000000000)
    (h : ∀ v' w' fp', (sliceE moveE 93).ow w' [v'] (l ++ ys) fp' → fp'.Nodup → (∀ b, b ∈ fp' → b ∈ fp ∨ b ∈ fys.flatten ∨ w.heap.size ≤ b) → But fp w w' → K (a.put o.dst v') w') : if Region.wanted o (yielded ops a.tmps) = true then Oper.wp Tryz.prog o a w K Q else X := by
  obtain ⟨i0, hi, hz0, hz1, hz2⟩ := info_parts inf_MoveS
  exact step_append_enc (E := moveE) (ty := 93) hgd s x _ ho i0 _ _ Tryz.underlying91 hi hz0 hz1 hz2 rfl (by decide) hv hown hys hs hd (by simp only [maxLen]; omega) (by omega) h

theorem sst1_MoveS {w0 w : World} {ps : List Ob} {ops : Array Oper} {o : Oper} {a : Act} {K : Act → World → Prop} {Q : Exit → Act → World → Prop} {X : Prop} {s x : Operand} {v : Value} {l : List (Move)} {b c : Nat} {y : Move} {cs : List Value}
    (S : Star w0 w (oE (sliceE moveE 93) [v] l :: oE moveE cs y :: ps)) (hgd : o.guard = none)
    (ho : o.op = .call { callee := .builtin .append, args := #[s, x], argTypes := #[91, 91] }) (hv : a.eval s = v)
    (hx : a.eval x = .slice (some ⟨b, 0, none⟩) 1 c) (hc : ∀ j u, cs[j]? = some u → w.cell? ⟨b, j, none⟩ = some u) (h1 : ∀ u, u ∈ cs → u.oneCell' = true) (hlen : l.length ≤ 1000000000000)
    (h : ∀ sa sn sc w', Star w0 w' (oE (sliceE moveE 93) [.slice sa sn sc] (l ++ [y]) :: ps) → K (a.put o.dst (.slice sa sn sc)) w') : if Region.wanted o (yielded ops a.tmps) = true then Oper.wp Tryz.prog o a w K Q else X := by
  obtain ⟨B, fp, hh, d⟩ := S
  obtain ⟨p1, p2, p3⟩ := hh 0 _ rfl
  obtain ⟨q1, q2, q3⟩ := hh 1 _ rfl
  have d01 := d 1 0 (by omega) (by simp) (by simp)
  refine sapp1_MoveS hgd s x ho hv p1 p2 hx hc h1 q1 q2 d01 hlen (fun v' w' fp' k1 k2 k3 k4 => ?_)
  obtain ⟨sa, sn, sc, rfl⟩ := ow_slice k1
  refine h sa sn sc w' ⟨B.trans (k4.below (fun b hb => (p3 b hb).1) B.size), fun i => match i with | 0 => fp' | i + 1 => fp (i + 2), fun i Q hQ => ?_, fun i j hij hi hj => ?_⟩
  · cases i with
    | zero =>
      obtain rfl : _ = Q := by simpa using hQ
      refine ⟨k1, k2, fun b hm => ⟨?_, Enc.ow_lt _ k1 b hm⟩⟩
      rcases k3 b hm with h1 | h1 | h1
      · exact (p3 b h1).1
      · exact (q3 b h1).1
      · have := B.size; omega
    | succ i =>
      have hQ' : ps[i]? = some Q := by simpa using hQ
      obtain ⟨h1, h2, h3⟩ := hh (i + 2) Q hQ'
      have hil := (List.getElem?_eq_some_iff.1 hQ').1
      refine ⟨Q.frame (fun b hm => k4.block b (h3 b hm).2 (fun hf => ?_)) h1, h2, fun b hm => ⟨(h3 b hm).1, Nat.lt_of_lt_of_le (h3 b hm).2 k4.size⟩⟩
      exact d 0 (i + 2) (by omega) (by simp) (by simpa using hil) b hf hm
  · have hd0 : ∀ i, i < ps.length → Dj fp' (fp (i + 2)) := by
      intro i hi b hb1 hb2
      rcases k3 b hb1 with h1 | h1 | h1
      · exact d 0 (i + 2) (by omega) (by simp) (by simpa using hi) b h1 hb2
      · exact d 1 (i + 2) (by omega) (by simp) (by simpa using hi) b h1 hb2
      · have := ((hh (i + 2) _ (by rw [List.getElem?_cons_succ, List.getElem?_cons_succ]; exact List.getElem?_eq_getElem hi)).2.2 b hb2).2
        omega
    cases i with
    | zero =>
      cases j with
      | zero => exact absurd rfl hij
      | succ j => exact hd0 j (by simpa using hj)
    | succ i =>
      cases j with
      | zero => exact (hd0 i (by simpa using hi)).symm
      | succ j => exact d (i + 2) (j + 2) (by omega) (by simpa using hi) (by simpa using hj)

theorem sstS_MoveS {w0 w : World} {ps : List Ob} {ops : Array Oper} {o : Oper} {a : Act} {K : Act → World → Prop} {Q : Exit → Act → World → Prop} {X : Prop} {s x : Operand} {v : Value} {l : List (Move)} {ys : List (Move)} {css : List (List Value)} {fys : List (List Nat)}
    (S : Star w0 w (oE (sliceE moveE 93) [v] l :: ps)) (hgd : o.guard = none)
    (ho : o.op = .call { callee := .builtin .append, args := #[s, x], argTypes := #[91, 91] }) (hv : a.eval s = v)
    (hys : OwAll (moveE) w ys css fys) (hfy : fys.flatten = []) (hs : SrcS w (moveE).size (a.eval x) ys.length css.flatten) (hlen : l.length + ys.length ≤ 1000000000000)
    (h : ∀ sa sn sc w', Star w0 w' (oE (sliceE moveE 93) [.slice sa sn sc] (l ++ ys) :: ps) → K (a.put o.dst (.slice sa sn sc)) w') : if Region.wanted o (yielded ops a.tmps) = true then Oper.wp Tryz.prog o a w K Q else X := by
  obtain ⟨B, fp, hh, d⟩ := S
  obtain ⟨p1, p2, p3⟩ := hh 0 _ rfl
  refine sappS_MoveS hgd s x ho hv p1 hys hs (by rw [hfy, List.append_nil]; exact p2) hlen (fun v' w' fp' k1 k2 k3 k4 => ?_)
  rw [hfy] at k3
  obtain ⟨sa, sn, sc, rfl⟩ := ow_slice k1
  refine h sa sn sc w' ⟨B.trans (k4.below (fun b hb => (p3 b hb).1) B.size), fun i => match i with | 0 => fp' | i + 1 => fp (i + 1), fun i Q hQ => ?_, fun i j hij hi hj => ?_⟩
  · cases i with
    | zero =>
      obtain rfl : _ = Q := by simpa using hQ
      refine ⟨k1, k2, fun b hm => ⟨?_, Enc.ow_lt _ k1 b hm⟩⟩
      rcases k3 b hm with h1 | h1 | h1
      · exact (p3 b h1).1
      · cases h1
      · have := B.size; omega
    | succ i =>
      have hQ' : ps[i]? = some Q := by simpa using hQ
      obtain ⟨h1, h2, h3⟩ := hh (i + 1) Q hQ'
      have hil := (List.getElem?_eq_some_iff.1 hQ').1
      refine ⟨Q.frame (fun b hm => k4.block b (h3 b hm).2 (fun hf => ?_)) h1, h2, fun b hm => ⟨(h3 b hm).1, Nat.lt_of_lt_of_le (h3 b hm).2 k4.size⟩⟩
      exact d 0 (i + 1) (by omega) (by simp) (by simpa using hil) b hf hm
  · have hd0 : ∀ i, i < ps.length → Dj fp' (fp (i + 1)) := by
      intro i hi b hb1 hb2
      rcases k3 b hb1 with h1 | h1 | h1
      · exact d 0 (i + 1) (by omega) (by simp) (by simpa using hi) b h1 hb2
      · cases h1
      · have := ((hh (i + 1) _ (by rw [List.getElem?_cons_succ]; exact List.getElem?_eq_getElem hi)).2.2 b hb2).2
        omega
    cases i with
    | zero =>
      cases j with
      | zero => exact absurd rfl hij
      | succ j => exact hd0 j (by simpa using hj)
    | succ i =>
      cases j with
      | zero => exact (hd0 i (by simpa using hi)).symm
      | succ j => exact d (i + 1) (j + 1) (by omega) (by simpa using hi) (by simpa using hj)

theorem sapp1_MoveSS {w : World} {ops : Array Oper} {o : Oper} {a : Act} {K : Act → World → Prop} {Q : Exit → Act → World → Prop} {X : Prop} (hgd : o.guard = none) (s x : Operand)
    (ho : o.op = .call { callee := .builtin .append, args := #[s, x], argTypes := #[34, 34] }) {v : Value} {l : List _} {fp : List Nat} (hv : a.eval s = v) (hown : (sliceE movesE 91).ow w [v] l fp) (hn : fp.Nodup)
    {g c : Nat} (hx : a.eval x = .slice (some ⟨g, 0, none⟩) 1 c) {y : _} {cs : List Value} {fy : List Nat} (hc : ∀ j u, cs[j]? = some u → w.cell? ⟨g, j, none⟩ = some u) (h1 : ∀ u, u ∈ cs → u.oneCell' = true) (hy : (movesE).ow w cs y fy)
    (hny : fy.Nodup) (hd : ∀ b, b ∈ fy → b ∉ fp) (hlen : l.length ≤ 1000000000000)
    (h : ∀ v' w' fp', (sliceE movesE 91).ow w' [v'] (l ++ [y]) fp' → fp'.Nodup → (∀ b, b ∈ fp' → b ∈ fp ∨ b ∈ fy ∨ w.heap.size ≤ b) → But fp w w' → K (a.put o.dst v') w') : if Region.wanted o (yielded ops a.tmps) = true then Oper.wp Tryz.prog o a w K Q else X := by
  obtain ⟨i0, hi, hz0, hz1, hz2⟩ := info_parts inf_MoveSS
  exact step_append_one (E := movesE) (ty := 91) hgd s x _ ho i0 _ _ Tryz.underlying34 hi hz0 hz1 hz2 rfl (by decide) (by decide) hv hown hn hx hc h1 hy hny hd hlen h

theorem sappS_MoveSS {w : World} {ops : Array Oper} {o : Oper} {a : Act} {K : Act → World → Prop} {Q : Exit → Act → World → Prop} {X : Prop} (hgd : o.guard = none) (s x : Operand)
    (ho : o.op = .call { callee := .builtin .append, args := #[s, x], argTypes := #[34, 34] }) {v : Value} {l : List _} {fp : List Nat} (hv : a.eval s = v) (hown : (sliceE movesE 91).ow w [v] l fp)
    {ys : List _} {css : List (List Value)} {fys : List (List Nat)} (hys : OwAll (movesE) w ys css fys) (hs : SrcS w (movesE).size (a.eval x) ys.length css.flatten) (hd : (fp ++ fys.flatten).Nodup) (hlen : l.length + ys.length ≤ 1000000000000)
    (h : ∀ v' w' fp', (sliceE movesE 91).ow w' [v'] (l ++ ys) fp' → fp'.Nodup → (∀ b, b ∈ fp' → b ∈ fp ∨ b ∈ fys.flatten ∨ w.heap.size ≤ b) → But fp w w' → K (a.put o.dst v') w') : if Region.wanted o (yielded ops a.tmps) = true then Oper.wp Tryz.prog o a w K Q else X := by
  obtain ⟨i0, hi, hz0, hz1, hz2⟩ := info_parts inf_MoveSS
  exact step_append_enc (E := movesE) (ty := 91) hgd s x _ ho i0 _ _ Tryz.underlying34 hi hz0 hz1 hz2 rfl (by decide) hv hown hys hs hd (by simp only [maxLen]; omega) (by omega) h

theorem sst1_MoveSS {w0 w : World} {ps : List Ob} {ops : Array Oper} {o : Oper} {a : Act} {K : Act → World → Prop} {Q : Exit → Act → World → Prop} {X : Prop} {s x : Operand} {v : Value} {l : List (List Move)} {b c : Nat} {y : List Move} {cs : List Value}
    (S : Star w0 w (oE (sliceE movesE 91) [v] l :: oE movesE cs y :: ps)) (hgd : o.guard = none)
    (ho : o.op = .call { callee := .builtin .append, args := #[s, x], argTypes := #[34, 34] }) (hv : a.eval s = v)
    (hx : a.eval x = .slice (some ⟨b, 0, none⟩) 1 c) (hc : ∀ j u, cs[j]? = some u → w.cell? ⟨b, j, none⟩ = some u) (h1 : ∀ u, u ∈ cs → u.oneCell' = true) (hlen : l.length ≤ 1000000000000)
    (h : ∀ sa sn sc w', Star w0 w' (oE (sliceE movesE 91) [.slice sa sn sc] (l ++ [y]) :: ps) → K (a.put o.dst (.slice sa sn sc)) w') : if Region.wanted o (yielded ops a.tmps) = true then Oper.wp Tryz.prog o a w K Q else X := by
  obtain ⟨B, fp, hh, d⟩ := S
  obtain ⟨p1, p2, p3⟩ := hh 0 _ rfl
  obtain ⟨q1, q2, q3⟩ := hh 1 _ rfl
  have d01 := d 1 0 (by omega) (by simp) (by simp)
  refine sapp1_MoveSS hgd s x ho hv p1 p2 hx hc h1 q1 q2 d01 hlen (fun v' w' fp' k1 k2 k3 k4 => ?_)
  obtain ⟨sa, sn, sc, rfl⟩ := ow_slice k1
  refine h sa sn sc w' ⟨B.trans (k4.below (fun b hb => (p3 b hb).1) B.size), fun i => match i with | 0 => fp' | i + 1 => fp (i + 2), fun i Q hQ => ?_, fun i j hij hi hj => ?_⟩
  · cases i with
    | zero =>
      obtain rfl : _ = Q := by simpa using hQ
      refine ⟨k1, k2, fun b hm => ⟨?_, Enc.ow_lt _ k1 b hm⟩⟩
      rcases k3 b hm with h1 | h1 | h1
      · exact (p3 b h1).1
      · exact (q3 b h1).1
      · have := B.size; omega
    | succ i =>
      have hQ' : ps[i]? = some Q := by simpa using hQ
      obtain ⟨h1, h2, h3⟩ := hh (i + 2) Q hQ'
      have hil := (List.getElem?_eq_some_iff.1 hQ').1
      refine ⟨Q.frame (fun b hm => k4.block b (h3 b hm).2 (fun hf => ?_)) h1, h2, fun b hm => ⟨(h3 b hm).1, Nat.lt_of_lt_of_le (h3 b hm).2 k4.size⟩⟩
      exact d 0 (i + 2) (by omega) (by simp) (by simpa using hil) b hf hm
  · have hd0 : ∀ i, i < ps.length → Dj fp' (fp (i + 2)) := by
      intro i hi b hb1 hb2
      rcases k3 b hb1 with h1 | h1 | h1
      · exact d 0 (i + 2) (by omega) (by simp) (by simpa using hi) b h1 hb2
      · exact d 1 (i + 2) (by omega) (by simp) (by simpa using hi) b h1 hb2
      · have := ((hh (i + 2) _ (by rw [List.getElem?_cons_succ, List.getElem?_cons_succ]; exact List.getElem?_eq_getElem hi)).2.2 b hb2).2
        omega
    cases i with
    | zero =>
      cases j with
      | zero => exact absurd rfl hij
      | succ j => exact hd0 j (by simpa using hj)
    | succ i =>
      cases j with
      | zero => exact (hd0 i (by simpa using hi)).symm
      | succ j => exact d (i + 2) (j + 2) (by omega) (by simpa using hi) (by simpa using hj)

theorem sstJ_Int64SS {w0 w : World} {ps : List Ob} {ops : Array Oper} {o : Oper} {a : Act} {K : Act → World → Prop} {Q : Exit → Act → World → Prop} {X : Prop} {s x : Operand} {v v2 : Value} {l l2 : List (List Int)}
    (S : Star w0 w (oE intssE [v] l :: oE intssE [v2] l2 :: ps)) (hgd : o.guard = none)
    (ho : o.op = .call { callee := .builtin .append, args := #[s, x], argTypes := #[29, 29] }) (hv : a.eval s = v) (hx : a.eval x = v2) (hlen : l.length + l2.length ≤ 1000000000000)
    (h : ∀ sa sn sc w', Star w0 w' (oE intssE [.slice sa sn sc] (l ++ l2) :: ps) → K (a.put o.dst (.slice sa sn sc)) w') : if Region.wanted o (yielded ops a.tmps) = true then Oper.wp Tryz.prog o a w K Q else X := by
  obtain ⟨B, fp, hh, d⟩ := S
  obtain ⟨p1, p2, p3⟩ := hh 0 _ rfl
  obtain ⟨q1, q2, q3⟩ := hh 1 _ rfl
  obtain ⟨css, fys, e1, e2, e3⟩ := srcS_own one_ints_ow q1
  have hsub : ∀ b, b ∈ fys.flatten → b ∈ fp 1 := fun b hb => by rw [e3]; exact List.mem_append_right _ hb
  have hnd : (fp 0 ++ fys.flatten).Nodup := by
    have d01 := d 0 1 (by omega) (by simp) (by simp)
    rw [e3] at q2
    exact Dj.nodup (fun b hb hb2 => d01 b hb (hsub b hb2)) p2 (List.nodup_append.1 q2).2.1
  refine sappS_Int64SS hgd s x ho hv p1 e1 (by rw [hx]; exact e2) hnd hlen (fun v' w' fp' k1 k2 k3 k4 => ?_)
  obtain ⟨sa, sn, sc, rfl⟩ := ow_slice k1
  refine h sa sn sc w' ⟨B.trans (k4.below (fun b hb => (p3 b hb).1) B.size), fun i => match i with | 0 => fp' | i + 1 => fp (i + 2), fun i Q hQ => ?_, fun i j hij hi hj => ?_⟩
  · cases i with
    | zero =>
      obtain rfl : _ = Q := by simpa using hQ
      refine ⟨k1, k2, fun b hm => ⟨?_, Enc.ow_lt _ k1 b hm⟩⟩
      rcases k3 b hm with h1 | h1 | h1
      · exact (p3 b h1).1
      · exact (q3 b (hsub b h1)).1
      · have := B.size; omega
    | succ i =>
      have hQ' : ps[i]? = some Q := by simpa using hQ
      obtain ⟨h1, h2, h3⟩ := hh (i + 2) Q hQ'
      have hil := (List.getElem?_eq_some_iff.1 hQ').1
      refine ⟨Q.frame (fun b hm => k4.block b (h3 b hm).2 (fun hf => ?_)) h1, h2, fun b hm => ⟨(h3 b hm).1, Nat.lt_of_lt_of_le (h3 b hm).2 k4.size⟩⟩
      exact d 0 (i + 2) (by omega) (by simp) (by simpa using hil) b hf hm
  · have hd0 : ∀ i, i < ps.length → Dj fp' (fp (i + 2)) := by
      intro i hi b hb1 hb2
      rcases k3 b hb1 with h1 | h1 | h1
      · exact d 0 (i + 2) (by omega) (by simp) (by simpa using hi) b h1 hb2
      · exact d 1 (i + 2) (by omega) (by simp) (by simpa using hi) b (hsub b h1) hb2
      · have := ((hh (i + 2) _ (by rw [List.getElem?_cons_succ, List.getElem?_cons_succ]; exact List.getElem?_eq_getElem hi)).2.2 b hb2).2
        omega
    cases i with
    | zero =>
      cases j with
      | zero => exact absurd rfl hij
      | succ j => exact hd0 j (by simpa using hj)
    | succ i =>
      cases j with
      | zero => exact (hd0 i (by simpa using hi)).symm
      | succ j => exact d (i + 2) (j + 2) (by omega) (by simpa using hi) (by simpa using hj)

theorem cell_ad {w : World} {cs : List Value} {ty : TypeId} : ∀ j u, cs[j]? = some u → (w.alloc (.cells cs.toArray ty)).drew.cell? ⟨w.heap.size, j, none⟩ = some u := fun j _ hu => (Blk.new w cs.toArray ty).cell j (by simpa using hu)

theorem cell_da {w : World} {cs : List Value} {ty : TypeId} : ∀ j u, cs[j]? = some u → (w.drew.alloc (.cells cs.toArray ty)).cell? ⟨w.heap.size, j, none⟩ = some u := fun j _ hu => (Blk.new w cs.toArray ty).cell j (by simpa using hu)

end Go.Proofs.YtcifdkliiljmkaaGreatDoor
