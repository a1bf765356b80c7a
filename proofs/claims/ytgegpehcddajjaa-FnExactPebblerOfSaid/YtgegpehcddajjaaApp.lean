/-
  append at the program's slice types (written by a program of this claim's own, gen_app.py).
-/
import Derived.Test.YtgegpehcddajjaaGrow
import Derived.Test.YtgegpehcddajjaaLInt64S
import Derived.Test.YtgegpehcddajjaaStructs
import Derived.WalkKit
namespace Go.Proofs.Ytgegpehcddajjaa
open Go.RowKit

theorem inf_Int64S : (Try.prog.info? 2).map (fun i => (i.zero, i.size, i.bytes)) = some (some (.int .i64 0), 1, 8) := by kernel_rfl

theorem inf_BoolS : (Try.prog.info? 4).map (fun i => (i.zero, i.size, i.bytes)) = some (some (.bool false), 1, 1) := by kernel_rfl

theorem inf_StringS : (Try.prog.info? 9).map (fun i => (i.zero, i.size, i.bytes)) = some (some (.string ByteArray.empty), 1, 16) := by kernel_rfl

theorem inf_MoveS : (Try.prog.info? 67).map (fun i => (i.zero, i.size, i.bytes)) = some (some (.agg #[.int .i64 0, .int .i64 0]), 2, 16) := by kernel_rfl

theorem app1_MoveS {w : World} {ops : Array Oper} {rest : List Oper} {o : Oper} {a : Act} {Q : Exit → Act → World → Prop} (hgd : o.guard = none) (s x : Operand)
    (ho : o.op = .call { callee := .builtin .append, args := #[s, x], argTypes := #[65, 65] }) {v : Value} {l : List _} {fp : List Nat} (hv : a.eval s = v) (hown : (sliceE moveE 67).ow w [v] l fp) (hn : fp.Nodup)
    {g c : Nat} (hx : a.eval x = .slice (some ⟨g, 0, none⟩) 1 c) {y : _} {cs : List Value} {fy : List Nat} (hc : ∀ j u, cs[j]? = some u → w.cell? ⟨g, j, none⟩ = some u) (h1 : ∀ u, u ∈ cs → u.oneCell' = true) (hy : (moveE).ow w cs y fy)
    (hny : fy.Nodup) (hd : ∀ b, b ∈ fy → b ∉ fp) (hlen : l.length ≤ 1000000000000)
    (h : ∀ v' w' fp', (sliceE moveE 67).ow w' [v'] (l ++ [y]) fp' → fp'.Nodup → (∀ b, b ∈ fp' → b ∈ fp ∨ b ∈ fy ∨ w.heap.size ≤ b) → But fp w w' → wpList Try.prog ops Q rest (a.put o.dst v') w') : wpList Try.prog ops Q (o :: rest) a w := by
  obtain ⟨i0, hi, hz0, hz1, hz2⟩ := info_parts inf_MoveS
  exact wpList_append_one (E := moveE) (ty := 67) hgd s x _ ho i0 _ _ Try.underlying65 hi hz0 hz1 hz2 rfl (by decide) (by decide) hv hown hn hx hc h1 hy hny hd hlen h

theorem appS_MoveS {w : World} {ops : Array Oper} {rest : List Oper} {o : Oper} {a : Act} {Q : Exit → Act → World → Prop} (hgd : o.guard = none) (s x : Operand)
    (ho : o.op = .call { callee := .builtin .append, args := #[s, x], argTypes := #[65, 65] }) {v : Value} {l : List _} {fp : List Nat} (hv : a.eval s = v) (hown : (sliceE moveE 67).ow w [v] l fp)
    {ys : List _} {css : List (List Value)} {fys : List (List Nat)} (hys : OwAll (moveE) w ys css fys) (hs : SrcS w (moveE).size (a.eval x) ys.length css.flatten) (hd : (fp ++ fys.flatten).Nodup) (hlen : l.length + ys.length ≤ 1000000000000)
    (h : ∀ v' w' fp', (sliceE moveE 67).ow w' [v'] (l ++ ys) fp' → fp'.Nodup → (∀ b, b ∈ fp' → b ∈ fp ∨ b ∈ fys.flatten ∨ w.heap.size ≤ b) → But fp w w' → wpList Try.prog ops Q rest (a.put o.dst v') w') : wpList Try.prog ops Q (o :: rest) a w := by
  obtain ⟨i0, hi, hz0, hz1, hz2⟩ := info_parts inf_MoveS
  exact wpList_append_enc (E := moveE) (ty := 67) hgd s x _ ho i0 _ _ Try.underlying65 hi hz0 hz1 hz2 rfl (by decide) hv hown hys hs hd (by simp only [maxLen]; omega) (by omega) h

theorem inf_MoveSS : (Try.prog.info? 65).map (fun i => (i.zero, i.size, i.bytes)) = some (some (.slice none 0 0), 1, 24) := by kernel_rfl

theorem app1_MoveSS {w : World} {ops : Array Oper} {rest : List Oper} {o : Oper} {a : Act} {Q : Exit → Act → World → Prop} (hgd : o.guard = none) (s x : Operand)
    (ho : o.op = .call { callee := .builtin .append, args := #[s, x], argTypes := #[40, 40] }) {v : Value} {l : List _} {fp : List Nat} (hv : a.eval s = v) (hown : (sliceE movesE 65).ow w [v] l fp) (hn : fp.Nodup)
    {g c : Nat} (hx : a.eval x = .slice (some ⟨g, 0, none⟩) 1 c) {y : _} {cs : List Value} {fy : List Nat} (hc : ∀ j u, cs[j]? = some u → w.cell? ⟨g, j, none⟩ = some u) (h1 : ∀ u, u ∈ cs → u.oneCell' = true) (hy : (movesE).ow w cs y fy)
    (hny : fy.Nodup) (hd : ∀ b, b ∈ fy → b ∉ fp) (hlen : l.length ≤ 1000000000000)
    (h : ∀ v' w' fp', (sliceE movesE 65).ow w' [v'] (l ++ [y]) fp' → fp'.Nodup → (∀ b, b ∈ fp' → b ∈ fp ∨ b ∈ fy ∨ w.heap.size ≤ b) → But fp w w' → wpList Try.prog ops Q rest (a.put o.dst v') w') : wpList Try.prog ops Q (o :: rest) a w := by
  obtain ⟨i0, hi, hz0, hz1, hz2⟩ := info_parts inf_MoveSS
  exact wpList_append_one (E := movesE) (ty := 65) hgd s x _ ho i0 _ _ Try.underlying40 hi hz0 hz1 hz2 rfl (by decide) (by decide) hv hown hn hx hc h1 hy hny hd hlen h

theorem appS_MoveSS {w : World} {ops : Array Oper} {rest : List Oper} {o : Oper} {a : Act} {Q : Exit → Act → World → Prop} (hgd : o.guard = none) (s x : Operand)
    (ho : o.op = .call { callee := .builtin .append, args := #[s, x], argTypes := #[40, 40] }) {v : Value} {l : List _} {fp : List Nat} (hv : a.eval s = v) (hown : (sliceE movesE 65).ow w [v] l fp)
    {ys : List _} {css : List (List Value)} {fys : List (List Nat)} (hys : OwAll (movesE) w ys css fys) (hs : SrcS w (movesE).size (a.eval x) ys.length css.flatten) (hd : (fp ++ fys.flatten).Nodup) (hlen : l.length + ys.length ≤ 1000000000000)
    (h : ∀ v' w' fp', (sliceE movesE 65).ow w' [v'] (l ++ ys) fp' → fp'.Nodup → (∀ b, b ∈ fp' → b ∈ fp ∨ b ∈ fys.flatten ∨ w.heap.size ≤ b) → But fp w w' → wpList Try.prog ops Q rest (a.put o.dst v') w') : wpList Try.prog ops Q (o :: rest) a w := by
  obtain ⟨i0, hi, hz0, hz1, hz2⟩ := info_parts inf_MoveSS
  exact wpList_append_enc (E := movesE) (ty := 65) hgd s x _ ho i0 _ _ Try.underlying40 hi hz0 hz1 hz2 rfl (by decide) hv hown hys hs hd (by simp only [maxLen]; omega) (by omega) h

theorem inf_PMoveS : (Try.prog.info? 51).map (fun i => (i.zero, i.size, i.bytes)) = some (some (.agg #[.int .i64 0, .int .i64 0, .int .i64 0]), 3, 24) := by kernel_rfl

theorem app1_PMoveS {w : World} {ops : Array Oper} {rest : List Oper} {o : Oper} {a : Act} {Q : Exit → Act → World → Prop} (hgd : o.guard = none) (s x : Operand)
    (ho : o.op = .call { callee := .builtin .append, args := #[s, x], argTypes := #[49, 49] }) {v : Value} {l : List _} {fp : List Nat} (hv : a.eval s = v) (hown : (sliceE pmoveE 51).ow w [v] l fp) (hn : fp.Nodup)
    {g c : Nat} (hx : a.eval x = .slice (some ⟨g, 0, none⟩) 1 c) {y : _} {cs : List Value} {fy : List Nat} (hc : ∀ j u, cs[j]? = some u → w.cell? ⟨g, j, none⟩ = some u) (h1 : ∀ u, u ∈ cs → u.oneCell' = true) (hy : (pmoveE).ow w cs y fy)
    (hny : fy.Nodup) (hd : ∀ b, b ∈ fy → b ∉ fp) (hlen : l.length ≤ 1000000000000)
    (h : ∀ v' w' fp', (sliceE pmoveE 51).ow w' [v'] (l ++ [y]) fp' → fp'.Nodup → (∀ b, b ∈ fp' → b ∈ fp ∨ b ∈ fy ∨ w.heap.size ≤ b) → But fp w w' → wpList Try.prog ops Q rest (a.put o.dst v') w') : wpList Try.prog ops Q (o :: rest) a w := by
  obtain ⟨i0, hi, hz0, hz1, hz2⟩ := info_parts inf_PMoveS
  exact wpList_append_one (E := pmoveE) (ty := 51) hgd s x _ ho i0 _ _ Try.underlying49 hi hz0 hz1 hz2 rfl (by decide) (by decide) hv hown hn hx hc h1 hy hny hd hlen h

theorem appS_PMoveS {w : World} {ops : Array Oper} {rest : List Oper} {o : Oper} {a : Act} {Q : Exit → Act → World → Prop} (hgd : o.guard = none) (s x : Operand)
    (ho : o.op = .call { callee := .builtin .append, args := #[s, x], argTypes := #[49, 49] }) {v : Value} {l : List _} {fp : List Nat} (hv : a.eval s = v) (hown : (sliceE pmoveE 51).ow w [v] l fp)
    {ys : List _} {css : List (List Value)} {fys : List (List Nat)} (hys : OwAll (pmoveE) w ys css fys) (hs : SrcS w (pmoveE).size (a.eval x) ys.length css.flatten) (hd : (fp ++ fys.flatten).Nodup) (hlen : l.length + ys.length ≤ 1000000000000)
    (h : ∀ v' w' fp', (sliceE pmoveE 51).ow w' [v'] (l ++ ys) fp' → fp'.Nodup → (∀ b, b ∈ fp' → b ∈ fp ∨ b ∈ fys.flatten ∨ w.heap.size ≤ b) → But fp w w' → wpList Try.prog ops Q rest (a.put o.dst v') w') : wpList Try.prog ops Q (o :: rest) a w := by
  obtain ⟨i0, hi, hz0, hz1, hz2⟩ := info_parts inf_PMoveS
  exact wpList_append_enc (E := pmoveE) (ty := 51) hgd s x _ ho i0 _ _ Try.underlying49 hi hz0 hz1 hz2 rfl (by decide) hv hown hys hs hd (by simp only [maxLen]; omega) (by omega) h

theorem inf_PMoveSS : (Try.prog.info? 49).map (fun i => (i.zero, i.size, i.bytes)) = some (some (.slice none 0 0), 1, 24) := by kernel_rfl

theorem app1_PMoveSS {w : World} {ops : Array Oper} {rest : List Oper} {o : Oper} {a : Act} {Q : Exit → Act → World → Prop} (hgd : o.guard = none) (s x : Operand)
    (ho : o.op = .call { callee := .builtin .append, args := #[s, x], argTypes := #[27, 27] }) {v : Value} {l : List _} {fp : List Nat} (hv : a.eval s = v) (hown : (sliceE pmovesE 49).ow w [v] l fp) (hn : fp.Nodup)
    {g c : Nat} (hx : a.eval x = .slice (some ⟨g, 0, none⟩) 1 c) {y : _} {cs : List Value} {fy : List Nat} (hc : ∀ j u, cs[j]? = some u → w.cell? ⟨g, j, none⟩ = some u) (h1 : ∀ u, u ∈ cs → u.oneCell' = true) (hy : (pmovesE).ow w cs y fy)
    (hny : fy.Nodup) (hd : ∀ b, b ∈ fy → b ∉ fp) (hlen : l.length ≤ 1000000000000)
    (h : ∀ v' w' fp', (sliceE pmovesE 49).ow w' [v'] (l ++ [y]) fp' → fp'.Nodup → (∀ b, b ∈ fp' → b ∈ fp ∨ b ∈ fy ∨ w.heap.size ≤ b) → But fp w w' → wpList Try.prog ops Q rest (a.put o.dst v') w') : wpList Try.prog ops Q (o :: rest) a w := by
  obtain ⟨i0, hi, hz0, hz1, hz2⟩ := info_parts inf_PMoveSS
  exact wpList_append_one (E := pmovesE) (ty := 49) hgd s x _ ho i0 _ _ Try.underlying27 hi hz0 hz1 hz2 rfl (by decide) (by decide) hv hown hn hx hc h1 hy hny hd hlen h

theorem appS_PMoveSS {w : World} {ops : Array Oper} {rest : List Oper} {o : Oper} {a : Act} {Q : Exit → Act → World → Prop} (hgd : o.guard = none) (s x : Operand)
    (ho : o.op = .call { callee := .builtin .append, args := #[s, x], argTypes := #[27, 27] }) {v : Value} {l : List _} {fp : List Nat} (hv : a.eval s = v) (hown : (sliceE pmovesE 49).ow w [v] l fp)
    {ys : List _} {css : List (List Value)} {fys : List (List Nat)} (hys : OwAll (pmovesE) w ys css fys) (hs : SrcS w (pmovesE).size (a.eval x) ys.length css.flatten) (hd : (fp ++ fys.flatten).Nodup) (hlen : l.length + ys.length ≤ 1000000000000)
    (h : ∀ v' w' fp', (sliceE pmovesE 49).ow w' [v'] (l ++ ys) fp' → fp'.Nodup → (∀ b, b ∈ fp' → b ∈ fp ∨ b ∈ fys.flatten ∨ w.heap.size ≤ b) → But fp w w' → wpList Try.prog ops Q rest (a.put o.dst v') w') : wpList Try.prog ops Q (o :: rest) a w := by
  obtain ⟨i0, hi, hz0, hz1, hz2⟩ := info_parts inf_PMoveSS
  exact wpList_append_enc (E := pmovesE) (ty := 49) hgd s x _ ho i0 _ _ Try.underlying27 hi hz0 hz1 hz2 rfl (by decide) hv hown hys hs hd (by simp only [maxLen]; omega) (by omega) h

end Go.Proofs.Ytgegpehcddajjaa
