/-
  The library's build at six strings whose words are single bytes.
-/
import Derived.Test.YtcifdkliiljmkaaGreatDoorRepOK
import Derived.Test.YtcifdkliiljmkaaGreatDoorRepBK
import Derived.Deep.WholeRow
import Derived.Handy
namespace Go.Proofs.YtcifdkliiljmkaaGreatDoor
open Go.RowKit

theorem strs_cellsQ {w : World} {B : Nat} {l : List ByteArray} {v : Value} (h : strsE.rd w B [v] l) (h0 : 0 < l.length) : ∃ jb jo jn jc, v = .slice (some ⟨jb, jo, none⟩) jn jc ∧ jn = l.length ∧ jb < B ∧ ∀ k, k < l.length → w.cell? ⟨jb, jo + k, none⟩ = some (.string (l.getD k ByteArray.empty)) := by
  obtain ⟨a, cap, rfl, h1, h2, h3, h4⟩ := rd_strs h
  obtain ⟨b, o, rfl, hb, -, -⟩ := h4 0 h0
  refine ⟨b, o, _, _, rfl, rfl, hb, fun k hk => ?_⟩
  obtain ⟨b2, o2, e2, -, hc, hs⟩ := h4 k hk
  cases e2
  rw [List.getD_eq_getElem?_getD]
  exact hc

theorem run_alloc0 {P : Program} (w : World) (t : TypeId) (cells : Array Value) (h : ((P.info? t).bind (·.zero)).map (·.cells) = some cells) :
    (Instr.alloc t true (.tuple #[])).run P w = .ok (.pointer (some ⟨w.heap.size, 0, none⟩)) (w.alloc (.cells cells t)) := by
  cases hi : P.info? t with
  | none => simp [hi] at h
  | some it =>
    cases hz : it.zero with
    | none => simp [hi, hz] at h
    | some z =>
      simp [hi, hz] at h
      subst h
      simp [Instr.alloc, zeroValue, typeInfo, hi, hz, newVar, newRow, Result.andThen]

theorem wpList_alloc0 {P : Program} {ops : Array Oper} {rest : List Oper} {o : Oper} {a : Act} {w : World} {Q : Exit → Act → World → Prop} (hg : o.guard = none) (t : TypeId) (ho : o.op = .alloc t) (cells : Array Value) (hc : ((P.info? t).bind (·.zero)).map (·.cells) = some cells)
    (h : wpList P ops Q rest (a.put o.dst (.pointer (some ⟨w.heap.size, 0, none⟩))) (w.alloc (.cells cells t))) : wpList P ops Q (o :: rest) a w :=
  wpList_plain hg fun _ hK => by
    unfold Oper.wp execOp
    simp only [ho, Sem.run_bind, run_alloc0 w t cells hc, Result.andThen_ok]
    exact hK _ _ h

/-- The table of bytes behind k rounds. -/
def tabK (k : Nat) : List Value := (List.range 256).map fun i => Value.int .u8 (if i < k then (i : Int) else 0)
theorem tabK_zero : tabK 0 = Tryz.zeroCells169.toList := by kernel_rfl
theorem zeroB_size : (Tryz.prog.info? tByt).map (·.size) = some Tryz.zeroCells169.size := by kernel_rfl
theorem zeroB_one : Tryz.zeroCells169.all (·.oneCell') = true := by kernel_rfl
theorem tabK_set (k : Nat) : (tabK k).set k (.int .u8 (k : Int)) = tabK (k + 1) := by
  unfold tabK
  apply List.ext_getElem?
  intro i
  rw [List.getElem?_set]
  by_cases h : k = i
  · subst h
    by_cases hk : k < 256
    · simp [hk]
    · simp [hk]
  · simp only [h, if_false, List.getElem?_map]
    by_cases hi : i < 256
    · simp only [List.getElem?_range hi, Option.map_some, Option.some.injEq]
      by_cases h2 : i < k
      · rw [if_pos h2, if_pos (by omega)]
      · rw [if_neg h2, if_neg (by omega)]
    · rw [List.getElem?_eq_none (by simpa using Nat.le_of_not_lt hi)]
      rfl

set_option maxHeartbeats 8000000 in
set_option maxRecDepth 100000 in
theorem build_bytes (r : Nat) (v : Value) (x y z : UInt8) (w : World) (hr : w.cell? ⟨r, 4, none⟩ = some v) (h : strsE.rd w w.heap.size [v] (repL ⟨#[x]⟩ ⟨#[y]⟩ ⟨#[z]⟩)) :
    Calls Tryz.prog 110 #[.pointer (some ⟨r, 0, none⟩)] w (fun e w' => ∃ iv, e = .returned iv ∧ Star w w' [oImpl iv ⟨#[x]⟩ ⟨#[y]⟩ ⟨#[z]⟩]) := by
  obtain ⟨jb, jo, jn, jc, rfl, hjn, hjb, hjc⟩ := strs_cellsQ h (by simp [repL])
  obtain rfl : jn = 6 := hjn
  have c0 : w.cell? ⟨jb, jo, none⟩ = some (.string ⟨#[97]⟩) := hjc 0 (by simp [repL])
  have c1 : w.cell? ⟨jb, jo + 1, none⟩ = some (.string ⟨#[x]⟩) := hjc 1 (by simp [repL])
  have c2 : w.cell? ⟨jb, jo + 2, none⟩ = some (.string ⟨#[98]⟩) := hjc 2 (by simp [repL])
  have c3 : w.cell? ⟨jb, jo + 3, none⟩ = some (.string ⟨#[y]⟩) := hjc 3 (by simp [repL])
  have c4 : w.cell? ⟨jb, jo + 4, none⟩ = some (.string ⟨#[99]⟩) := hjc 4 (by simp [repL])
  have c5 : w.cell? ⟨jb, jo + 5, none⟩ = some (.string ⟨#[z]⟩) := hjc 5 (by simp [repL])
  clear h hjc
  have hsc := run_storeCells_new (P := Tryz.prog) w tByt _ _ zeroB_size rfl zeroB_one
  go_enter Tryz.func110, Tryz.ntmps110
  go_wp2
  go_rounds 4
  have S := (Star.nil w).alloc (cs := Tryz.zeroCells169) (ty := tByt)
  rw [← tabK_zero] at S
  generalize hW : w.alloc _ = w1 at S ⊢
  obtain ⟨q, hq⟩ : ∃ q, q = w.heap.size := ⟨_, rfl⟩
  rw [← hq] at S ⊢
  have hne : ¬ jb = q := by omega
  have hne' : ¬ q = jb := by omega
  clear hW hsc hr
  have HQ := Lib.hid hq
  clear hq
  go_loopw [61] (fun vi wr => ∃ k : Nat, k ≤ 256 ∧ vi = .int .i64 k ∧ Star w wr [oB q (tabK k) tByt]) (fun vi _ => 256 - (intOf vi).toNat)
  case atStart => exact ⟨0, Nat.zero_le _, rfl, S⟩
  case round =>
    clear S
    obtain ⟨k, hk, rfl, S⟩ := hrel
    by_cases hlt : k < 256
    case neg =>
      have t1 : ¬ (k : Int) < 256 := by omega
      obtain rfl : k = 256 := by omega
      have d0 := (S.below.cell hjb).trans c0
      have d1 := (S.below.cell hjb).trans c1
      have d2 := (S.below.cell hjb).trans c2
      have d3 := (S.below.cell hjb).trans c3
      have d4 := (S.below.cell hjb).trans c4
      have d5 := (S.below.cell hjb).trans c5
      have f0 := (S.blk 0 rfl).free
      have x0 := (S.blk 0 rfl).cell 97 (v := .int .u8 97) rfl
      have x1 := (S.blk 0 rfl).cell 98 (v := .int .u8 98) rfl
      have x2 := (S.blk 0 rfl).cell 99 (v := .int .u8 99) rfl
      clear c0 c1 c2 c3 c4 c5 t1 hk hlt
      have g1 : ∀ h, (((⟨#[97]⟩ : ByteArray)[0]'h).toNat : Int) = 97 := fun _ => rfl
      have g2 : ∀ h, (((⟨#[98]⟩ : ByteArray)[0]'h).toNat : Int) = 98 := fun _ => rfl
      have g3 : ∀ h, (((⟨#[99]⟩ : ByteArray)[0]'h).toNat : Int) = 99 := fun _ => rfl
      have g4 : ∀ h, (((⟨#[x]⟩ : ByteArray)[0]'h).toNat : Int) = (x.toNat : Int) := fun _ => rfl
      have g5 : ∀ h, (((⟨#[y]⟩ : ByteArray)[0]'h).toNat : Int) = (y.toNat : Int) := fun _ => rfl
      have g6 : ∀ h, (((⟨#[z]⟩ : ByteArray)[0]'h).toNat : Int) = (z.toNat : Int) := fun _ => rfl
      go_wp2
      go_rounds 4
      go_ret
      exact ⟨_, rfl, (((S.set 99 _).set 98 _).set 97 _).toByt (x := x) (y := y) (z := z) rfl rfl rfl rfl rfl rfl⟩
    have t1 : (k : Int) < 256 := by omega
    have t0 : (0 : Int) ≤ (k : Int) := by omega
    have wu : IntKind.u8.wrap (k : Int) = (k : Int) := by rw [IntKind.wrap_u8]; omega
    have x0 : wr.cell? ⟨q, k, none⟩ = some (.int .u8 (if k < k then (k : Int) else 0)) := (S.blk 0 rfl).cell k (by simp [tabK, hlt])
    have f0 := (S.blk 0 rfl).free k
    clear c0 c1 c2 c3 c4 c5
    go_wp2
    have S2 := S.set k (.int .u8 (k : Int))
    rw [tabK_set] at S2
    go_roundw
    case rel => exact ⟨k + 1, by omega, by go_num, S2⟩
    case measure => simp [intOf]; omega

end Go.Proofs.YtcifdkliiljmkaaGreatDoor
