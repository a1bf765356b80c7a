/-
  The reference's l02Raised (written by a program of this claim's own, gen_join.py).
-/
import Derived.Test.YtnkhgfdlehhjmaaDoorJoinAidK
namespace Go.Proofs.YtnkhgfdlehhjmaaDoor
open Go.RowKit

set_option maxHeartbeats 1000000 in
theorem l02Raised_any (k : Int) (hk : -1 ≤ k ∧ k ≤ 100) (m : Move) (ht : -2 ≤ m.to ∧ m.to ≤ 100) (hd : -1 ≤ m.dir ∧ m.dir ≤ 1) (w : World) :
    Calls Tryd.prog 55 #[.agg #[.int .i64 m.to, .int .i64 m.dir], .int .i64 k] w (Gives (.agg #[.int .i64 (raisedM k m).to, .int .i64 (raisedM k m).dir]) w) := by
  have bw : IntKind.i64.wrap (m.to + k) = m.to + k := IntWalk.i64_in _ ⟨by omega, by omega⟩
  by_cases h : m.to < 0
  case pos =>
    have tA : decide (0 ≤ m.to) = false := decide_eq_false (by omega)
    have e : raisedM k m = m := by unfold raisedM; rw [if_pos h]
    rw [e]
    go_enter Tryd.func55, Tryd.ntmps55
    go_wp2
    have S5 := ((Star.nil w).alloc (cs := #[.int .i64 m.to, .int .i64 m.dir]) (ty := 65)).alloc (cs := #[.int .i64 m.to, .int .i64 m.dir]) (ty := 65)
    rw [World.size_alloc] at S5
    have q0 := (S5.blk 0 rfl).cell 0 rfl
    have q1 := (S5.blk 0 rfl).cell 1 rfl
    exact bodyPost_ret (v := .agg #[.int .i64 m.to, .int .i64 m.dir]) (by simp [results, Tryd.results55, go_sem, q0, q1]) rfl (show Gives _ w _ _ from ⟨rfl, S5.below⟩)
  have tA : decide (0 ≤ m.to) = true := decide_eq_true (by omega)
  have e : raisedM k m = ⟨m.to + k, m.dir⟩ := by unfold raisedM; rw [if_neg h]
  rw [e]
  go_enter Tryd.func55, Tryd.ntmps55
  go_wp2
  have S5 := ((Star.nil w).alloc (cs := #[.int .i64 (m.to + k), .int .i64 m.dir]) (ty := 65)).alloc (cs := #[.int .i64 (m.to + k), .int .i64 m.dir]) (ty := 65)
  rw [World.size_alloc] at S5
  have q0 := (S5.blk 0 rfl).cell 0 rfl
  have q1 := (S5.blk 0 rfl).cell 1 rfl
  exact bodyPost_ret (v := .agg #[.int .i64 (m.to + k), .int .i64 m.dir]) (by simp [results, Tryd.results55, go_sem, q0, q1]) rfl (show Gives _ w _ _ from ⟨rfl, S5.below⟩)

end Go.Proofs.YtnkhgfdlehhjmaaDoor
