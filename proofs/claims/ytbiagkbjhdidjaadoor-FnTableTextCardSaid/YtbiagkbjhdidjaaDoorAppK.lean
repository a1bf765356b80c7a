/-
  append at the program's slice types (written by a program of this claim's own, gen_app.py).
-/
import Derived.Test.YtbiagkbjhdidjaaDoorGrowK
import Derived.Test.YtbiagkbjhdidjaaDoorLInt64SK
import Derived.Test.YtbiagkbjhdidjaaDoorStructsK
import Derived.WalkKit
namespace Go.Proofs.YtbiagkbjhdidjaaDoor
open Go.RowKit

theorem inf_Int64S : (Tryd.prog.info? 2).map (fun i => (i.zero, i.size, i.bytes)) = some (some (.int .i64 0), 1, 8) := by kernel_rfl

theorem app1_Int64S {w : World} {ops : Array Oper} {rest : List Oper} {o : Oper} {a : Act} {Q : Exit → Act → World → Prop} (hgd : o.guard = none) (s x : Operand)
    (ho : o.op = .call { callee := .builtin .append, args := #[s, x], argTypes := #[58, 58] }) {v : Value} {l : List _} {fp : List Nat} (hv : a.eval s = v) (hown : (sliceE intE 2).ow w [v] l fp) (hn : fp.Nodup)
    {g c : Nat} (hx : a.eval x = .slice (some ⟨g, 0, none⟩) 1 c) {y : _} {cs : List Value} {fy : List Nat} (hc : ∀ j u, cs[j]? = some u → w.cell? ⟨g, j, none⟩ = some u) (h1 : ∀ u, u ∈ cs → u.oneCell' = true) (hy : (intE).ow w cs y fy)
    (hny : fy.Nodup) (hd : ∀ b, b ∈ fy → b ∉ fp) (hlen : l.length ≤ 1000000000000)
    (h : ∀ v' w' fp', (sliceE intE 2).ow w' [v'] (l ++ [y]) fp' → fp'.Nodup → (∀ b, b ∈ fp' → b ∈ fp ∨ b ∈ fy ∨ w.heap.size ≤ b) → But fp w w' → wpList Tryd.prog ops Q rest (a.put o.dst v') w') : wpList Tryd.prog ops Q (o :: rest) a w := by
  obtain ⟨i0, hi, hz0, hz1, hz2⟩ := info_parts inf_Int64S
  exact wpList_append_one (E := intE) (ty := 2) hgd s x _ ho i0 _ _ Tryd.underlying58 hi hz0 hz1 hz2 rfl (by decide) (by decide) hv hown hn hx hc h1 hy hny hd hlen h

theorem appS_Int64S {w : World} {ops : Array Oper} {rest : List Oper} {o : Oper} {a : Act} {Q : Exit → Act → World → Prop} (hgd : o.guard = none) (s x : Operand)
    (ho : o.op = .call { callee := .builtin .append, args := #[s, x], argTypes := #[58, 58] }) {v : Value} {l : List _} {fp : List Nat} (hv : a.eval s = v) (hown : (sliceE intE 2).ow w [v] l fp)
    {ys : List _} {css : List (List Value)} {fys : List (List Nat)} (hys : OwAll (intE) w ys css fys) (hs : SrcS w (intE).size (a.eval x) ys.length css.flatten) (hd : (fp ++ fys.flatten).Nodup) (hlen : l.length + ys.length ≤ 1000000000000)
    (h : ∀ v' w' fp', (sliceE intE 2).ow w' [v'] (l ++ ys) fp' → fp'.Nodup → (∀ b, b ∈ fp' → b ∈ fp ∨ b ∈ fys.flatten ∨ w.heap.size ≤ b) → But fp w w' → wpList Tryd.prog ops Q rest (a.put o.dst v') w') : wpList Tryd.prog ops Q (o :: rest) a w := by
  obtain ⟨i0, hi, hz0, hz1, hz2⟩ := info_parts inf_Int64S
  exact wpList_append_enc (E := intE) (ty := 2) hgd s x _ ho i0 _ _ Tryd.underlying58 hi hz0 hz1 hz2 rfl (by decide) hv hown hys hs hd (by simp only [maxLen]; omega) (by omega) h

theorem inf_BoolS : (Tryd.prog.info? 4).map (fun i => (i.zero, i.size, i.bytes)) = some (some (.bool false), 1, 1) := by kernel_rfl

theorem inf_StringS : (Tryd.prog.info? 9).map (fun i => (i.zero, i.size, i.bytes)) = some (some (.string ByteArray.empty), 1, 16) := by kernel_rfl

theorem app1_StringS {w : World} {ops : Array Oper} {rest : List Oper} {o : Oper} {a : Act} {Q : Exit → Act → World → Prop} (hgd : o.guard = none) (s x : Operand)
    (ho : o.op = .call { callee := .builtin .append, args := #[s, x], argTypes := #[64, 64] }) {v : Value} {l : List _} {fp : List Nat} (hv : a.eval s = v) (hown : (sliceE strE 9).ow w [v] l fp) (hn : fp.Nodup)
    {g c : Nat} (hx : a.eval x = .slice (some ⟨g, 0, none⟩) 1 c) {y : _} {cs : List Value} {fy : List Nat} (hc : ∀ j u, cs[j]? = some u → w.cell? ⟨g, j, none⟩ = some u) (h1 : ∀ u, u ∈ cs → u.oneCell' = true) (hy : (strE).ow w cs y fy)
    (hny : fy.Nodup) (hd : ∀ b, b ∈ fy → b ∉ fp) (hlen : l.length ≤ 1000000000000)
    (h : ∀ v' w' fp', (sliceE strE 9).ow w' [v'] (l ++ [y]) fp' → fp'.Nodup → (∀ b, b ∈ fp' → b ∈ fp ∨ b ∈ fy ∨ w.heap.size ≤ b) → But fp w w' → wpList Tryd.prog ops Q rest (a.put o.dst v') w') : wpList Tryd.prog ops Q (o :: rest) a w := by
  obtain ⟨i0, hi, hz0, hz1, hz2⟩ := info_parts inf_StringS
  exact wpList_append_one (E := strE) (ty := 9) hgd s x _ ho i0 _ _ Tryd.underlying64 hi hz0 hz1 hz2 rfl (by decide) (by decide) hv hown hn hx hc h1 hy hny hd hlen h

theorem appS_StringS {w : World} {ops : Array Oper} {rest : List Oper} {o : Oper} {a : Act} {Q : Exit → Act → World → Prop} (hgd : o.guard = none) (s x : Operand)
    (ho : o.op = .call { callee := .builtin .append, args := #[s, x], argTypes := #[64, 64] }) {v : Value} {l : List _} {fp : List Nat} (hv : a.eval s = v) (hown : (sliceE strE 9).ow w [v] l fp)
    {ys : List _} {css : List (List Value)} {fys : List (List Nat)} (hys : OwAll (strE) w ys css fys) (hs : SrcS w (strE).size (a.eval x) ys.length css.flatten) (hd : (fp ++ fys.flatten).Nodup) (hlen : l.length + ys.length ≤ 1000000000000)
    (h : ∀ v' w' fp', (sliceE strE 9).ow w' [v'] (l ++ ys) fp' → fp'.Nodup → (∀ b, b ∈ fp' → b ∈ fp ∨ b ∈ fys.flatten ∨ w.heap.size ≤ b) → But fp w w' → wpList Tryd.prog ops Q rest (a.put o.dst v') w') : wpList Tryd.prog ops Q (o :: rest) a w := by
  obtain ⟨i0, hi, hz0, hz1, hz2⟩ := info_parts inf_StringS
  exact wpList_append_enc (E := strE) (ty := 9) hgd s x _ ho i0 _ _ Tryd.underlying64 hi hz0 hz1 hz2 rfl (by decide) hv hown hys hs hd (by simp only [maxLen]; omega) (by omega) h

theorem inf_Int64SS : (Tryd.prog.info? 58).map (fun i => (i.zero, i.size, i.bytes)) = some (some (.slice none 0 0), 1, 24) := by kernel_rfl

theorem inf_StringSS : (Tryd.prog.info? 64).map (fun i => (i.zero, i.size, i.bytes)) = some (some (.slice none 0 0), 1, 24) := by kernel_rfl

end Go.Proofs.YtbiagkbjhdidjaaDoor
