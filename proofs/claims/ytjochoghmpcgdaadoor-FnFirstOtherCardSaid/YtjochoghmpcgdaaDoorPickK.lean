/-
  The reference's source of choices: a number from 0 to n - 1.
-/
import Derived.Laws.BitsLemmas
import Derived.Test.YtjochoghmpcgdaaDoorBytesK
namespace Go.Proofs.YtjochoghmpcgdaaDoor
open Go.RowKit

abbrev srcTy : TypeId := 84

theorem u64_in (n : Int) : 0 ≤ IntKind.u64.wrap n ∧ IntKind.u64.wrap n < 2 ^ 64 := by rw [IntKind.wrap_u64]; omega

set_option maxHeartbeats 1000000 in
theorem next_any (q k : Nat) (v : Value) (code : List Int) (seed : Int) (w0 w : World) (hk : k ≤ 1000) (hs : 0 ≤ seed ∧ seed < 2 ^ 64) (hr : bytesE.rd w0 w0.heap.size [v] code) (S : Star w0 w [oB q [v, .int .i64 k, .int .u64 seed] srcTy]) :
    Calls Tryd.prog 69 #[.pointer (some ⟨q, 0, none⟩)] w (fun e w' => ∃ x y : Int, e = .returned (.int .i64 x) ∧ (0 ≤ x ∧ x ≤ 255) ∧ (0 ≤ y ∧ y < 2 ^ 64) ∧ Star w0 w' [oB q [v, .int .i64 (k + 1 : Nat), .int .u64 y] srcTy]) := by
  obtain ⟨a, cap, rfl, h1, h2, -, h4⟩ := rd_bytes (bytesE.rd_of S.below hr)
  have b0 := S.blk 0 rfl
  have c0 := b0.cell 0 rfl
  have c1 := b0.cell 1 rfl
  have c2 := b0.cell 2 rfl
  have f1 := b0.free 1
  have f2 := b0.free 2
  have H4 := Lib.hid h4
  obtain ⟨n, hn⟩ : ∃ n, n = code.length := ⟨_, rfl⟩
  rw [← hn] at H4 h1 c0 b0 S ⊢
  clear h4 hr hn
  go_enter Tryd.func69, Tryd.ntmps69
  by_cases hlt : k < n
  · obtain ⟨p, o, rfl, hb, hc, lo, hi⟩ := H4.out k hlt
    generalize code[k]?.getD 0 = x at *
    have w1 : IntKind.i64.wrap x = x := IntWalk.i64_in _ ⟨by omega, by omega⟩
    have w2 : IntKind.u64.wrap x = x := by rw [IntKind.wrap_u64]; omega
    have t1 : (k : Int) < (n : Int) := by omega
    obtain ⟨Y, hY⟩ : ∃ Y, Y = IntKind.u64.wrap (IntKind.u64.wrap (IntKind.u64.wrap (seed * 6364136223846793005) + x) + 1442695040888963407) := ⟨_, rfl⟩
    have hy := u64_in (IntKind.u64.wrap (IntKind.u64.wrap (seed * 6364136223846793005) + x) + 1442695040888963407)
    rw [← hY] at hy
    have HY := Lib.hid hY; clear hY
    go_wp2
    go_quiet (fail)
    go_wp2
    go_quiet (fail)
    go_wp2
    rw [← HY.out]
    generalize hW : World.setCell (World.setCell (w.drewN _) _ _) _ _ = w1
    have S1 : Star w0 w1 [oB q [.slice (some ⟨p, o, none⟩) n cap, .int .i64 (k + 1 : Nat), .int .u64 Y] srcTy] := by rw [← hW]; exact ((S.step (below_drewN (Below.refl _ _) _)).set 1 _).set 2 _
    clear hW c0 c1 c2 f1 f2 S HY hc
    have b0 := S1.blk 0 rfl
    have c0 := b0.cell 0 rfl
    have c1 := b0.cell 1 rfl
    clear b0
    have t2 : ((k + 1 : Nat) : Int) ≤ (n : Int) := by omega
    go_wp2
    go_quiet (fail)
    go_wp2
    go_ret
    exact ⟨x, Y, rfl, ⟨lo, hi⟩, hy, S1.step (below_drewN (Below.refl _ _) _)⟩
  · have t1 : ¬ (k : Int) < (n : Int) := by omega
    obtain ⟨Y, hY⟩ : ∃ Y, Y = IntKind.u64.wrap (IntKind.u64.wrap (IntKind.u64.wrap (seed * 6364136223846793005)) + 1442695040888963407) := ⟨_, rfl⟩
    have hy := u64_in (IntKind.u64.wrap (IntKind.u64.wrap (seed * 6364136223846793005)) + 1442695040888963407)
    rw [← hY] at hy
    have HY := Lib.hid hY; clear hY
    go_wp2
    go_quiet (fail)
    go_wp2
    rw [← HY.out]
    generalize hW : World.setCell (World.setCell (w.drewN _) _ _) _ _ = w1
    have S1 : Star w0 w1 [oB q [.slice a n cap, .int .i64 (k + 1 : Nat), .int .u64 Y] srcTy] := by rw [← hW]; exact ((S.step (below_drewN (Below.refl _ _) _)).set 1 _).set 2 _
    clear hW c0 c1 c2 f1 f2 S HY H4
    have b0 := S1.blk 0 rfl
    have c0 := b0.cell 0 rfl
    have c1 := b0.cell 1 rfl
    have c2 := b0.cell 2 rfl
    clear b0
    have t2 : ¬ ((k + 1 : Nat) : Int) ≤ (n : Int) := by omega
    go_wp2
    go_quiet (fail)
    go_wp2
    go_ret
    have hm : bits .and .u64 (Y / 1099511627776) 255 = (Y / 1099511627776) % 256 := bits_mask .u64 64 (by decide) (fun n a b => by rw [IntKind.wrap_u64]; omega) 8 (by decide) _ (by omega) (by omega)
    refine ⟨(Y / 1099511627776) % 256, Y, ?_, by omega, hy, S1.step (below_drewN (Below.refl _ _) _)⟩
    show Ending.returned (.int .i64 (wrap64 (bits .and .u64 (Y / 1099511627776) 255))) = _
    rw [hm, IntWalk.wrap64_in _ ⟨by omega, by omega⟩]

theorem from_any (v : Value) (code : List Int) (w : World) (hr : bytesE.rd w w.heap.size [v] code) :
    Calls Tryd.prog 19 #[v] w (fun e w' => e = .returned (.pointer (some ⟨w.heap.size, 0, none⟩)) ∧ Star w w' [oB w.heap.size [v, .int .i64 0, .int .u64 0] srcTy]) := by
  obtain ⟨a, cap, rfl, -, -, -, -⟩ := rd_bytes hr
  go_enter Tryd.func19, Tryd.ntmps19
  go_wp2
  go_ret
  exact ⟨rfl, (Star.nil w).alloc⟩

set_option maxHeartbeats 1000000 in
theorem pick_any (q : Nat) (n : Int) (v : Value) (code : List Int) (w0 w : World) (hn : -9223372036854775808 ≤ n ∧ n ≤ 200) (hr : bytesE.rd w0 w0.heap.size [v] code) (S : Star w0 w [oB q [v, .int .i64 0, .int .u64 0] srcTy]) :
    Calls Tryd.prog 41 #[.pointer (some ⟨q, 0, none⟩), .int .i64 n] w (fun e w' => ∃ x : Nat, e = .returned (.int .i64 x) ∧ (x = 0 ∨ (x : Int) < n) ∧ Below w0.heap.size w0 w') := by
  go_enter Tryd.func41, Tryd.ntmps41
  by_cases h1 : n ≤ 1
  · go_wp2
    go_ret
    exact ⟨0, rfl, .inl rfl, S.below⟩
  · go_wp2_with fail
    refine (next_any q 0 v code 0 w0 w (by omega) (by omega) hr S).mono ?_
    rintro e w1 ⟨x, y, rfl, hx, -, S1⟩
    have t2 : ¬ 200 < n := by omega
    obtain ⟨m, rfl⟩ : ∃ m : Nat, n = m := ⟨n.toNat, by omega⟩
    obtain ⟨x, rfl⟩ : ∃ m : Nat, x = m := ⟨x.toNat, by omega⟩
    have hm0 : ¬ m = 0 := by omega
    obtain ⟨z, hz⟩ : ∃ z, z = x % m := ⟨_, rfl⟩
    have hrem : (x : Int).tmod (m : Int) = (z : Int) := by rw [hz]; rfl
    have hzm : z < m := by rw [hz]; exact Nat.mod_lt _ (by omega)
    clear hz
    go_wp2
    go_ret
    exact ⟨z, rfl, .inr (by omega), S1.below⟩

end Go.Proofs.YtjochoghmpcgdaaDoor
