/-
  The reference's source of choices as a part of what a call holds: numbers, elements of lists.
-/
import Derived.Test.YtjochoghmpcgdaaDoorPickK
namespace Go.Proofs.YtjochoghmpcgdaaDoor
open Go.RowKit

set_option maxHeartbeats 1000000 in
theorem nextP_any (ps : List Ob) (q k : Nat) (v : Value) (code : List Int) (seed : Int) (w0 w : World) (hk : k ≤ 1000000) (hs : 0 ≤ seed ∧ seed < 2 ^ 64) (hr : bytesE.rd w0 w0.heap.size [v] code) (S : Star w0 w (oB q [v, .int .i64 k, .int .u64 seed] srcTy :: ps)) :
    Calls Tryd.prog 69 #[.pointer (some ⟨q, 0, none⟩)] w (fun e w' => ∃ x y : Int, e = .returned (.int .i64 x) ∧ (0 ≤ x ∧ x ≤ 255) ∧ (0 ≤ y ∧ y < 2 ^ 64) ∧ Star w0 w' (oB q [v, .int .i64 (k + 1 : Nat), .int .u64 y] srcTy :: ps)) := by
  obtain ⟨a, cap, rfl, h1, h2, -, h4⟩ := rd_bytes (bytesE.rd_of S.below hr)
  have b0 := S.blk 0 rfl
  have c0 := b0.cell 0 rfl
  have c1 := b0.cell 1 rfl
  have c2 := b0.cell 2 rfl
  have f1 := b0.free 1
  have f2 := b0.free 2
  have H4 := Lib.hid h4
  obtain ⟨n, hn⟩ : ∃ n, n = code.length := ⟨_, rfl⟩
  rw [← hn] at H4 h1 c0 b0 S ⊢
  clear h4 hr hn
  go_enter Tryd.func69, Tryd.ntmps69
  by_cases hlt : k < n
  · obtain ⟨p, o, rfl, hb, hc, lo, hi⟩ := H4.out k hlt
    generalize code[k]?.getD 0 = x at *
    have w1 : IntKind.i64.wrap x = x := IntWalk.i64_in _ ⟨by omega, by omega⟩
    have w2 : IntKind.u64.wrap x = x := by rw [IntKind.wrap_u64]; omega
    have t1 : (k : Int) < (n : Int) := by omega
    obtain ⟨Y, hY⟩ : ∃ Y, Y = IntKind.u64.wrap (IntKind.u64.wrap (IntKind.u64.wrap (seed * 6364136223846793005) + x) + 1442695040888963407) := ⟨_, rfl⟩
    have hy := u64_in (IntKind.u64.wrap (IntKind.u64.wrap (seed * 6364136223846793005) + x) + 1442695040888963407)
    rw [← hY] at hy
    have HY := Lib.hid hY; clear hY
    go_wp2
    go_quiet (fail)
    go_wp2
    go_quiet (fail)
    go_wp2
    rw [← HY.out]
    generalize hW : World.setCell (World.setCell (w.drewN _) _ _) _ _ = w1
    have S1 : Star w0 w1 (oB q [.slice (some ⟨p, o, none⟩) n cap, .int .i64 (k + 1 : Nat), .int .u64 Y] srcTy :: ps) := by rw [← hW]; exact ((S.step (below_drewN (Below.refl _ _) _)).set 1 _).set 2 _
    clear hW c0 c1 c2 f1 f2 S HY hc
    have b0 := S1.blk 0 rfl
    have c0 := b0.cell 0 rfl
    have c1 := b0.cell 1 rfl
    clear b0
    have t2 : ((k + 1 : Nat) : Int) ≤ (n : Int) := by omega
    go_wp2
    go_quiet (fail)
    go_wp2
    go_ret
    exact ⟨x, Y, rfl, ⟨lo, hi⟩, hy, S1.step (below_drewN (Below.refl _ _) _)⟩
  · have t1 : ¬ (k : Int) < (n : Int) := by omega
    obtain ⟨Y, hY⟩ : ∃ Y, Y = IntKind.u64.wrap (IntKind.u64.wrap (IntKind.u64.wrap (seed * 6364136223846793005)) + 1442695040888963407) := ⟨_, rfl⟩
    have hy := u64_in (IntKind.u64.wrap (IntKind.u64.wrap (seed * 6364136223846793005)) + 1442695040888963407)
    rw [← hY] at hy
    have HY := Lib.hid hY; clear hY
    go_wp2
    go_quiet (fail)
    go_wp2
    rw [← HY.out]
    generalize hW : World.setCell (World.setCell (w.drewN _) _ _) _ _ = w1
    have S1 : Star w0 w1 (oB q [.slice a n cap, .int .i64 (k + 1 : Nat), .int .u64 Y] srcTy :: ps) := by rw [← hW]; exact ((S.step (below_drewN (Below.refl _ _) _)).set 1 _).set 2 _
    clear hW c0 c1 c2 f1 f2 S HY H4
    have b0 := S1.blk 0 rfl
    have c0 := b0.cell 0 rfl
    have c1 := b0.cell 1 rfl
    have c2 := b0.cell 2 rfl
    clear b0
    have t2 : ¬ ((k + 1 : Nat) : Int) ≤ (n : Int) := by omega
    go_wp2
    go_quiet (fail)
    go_wp2
    go_ret
    have hm : bits .and .u64 (Y / 1099511627776) 255 = (Y / 1099511627776) % 256 := bits_mask .u64 64 (by decide) (fun n a b => by rw [IntKind.wrap_u64]; omega) 8 (by decide) _ (by omega) (by omega)
    refine ⟨(Y / 1099511627776) % 256, Y, ?_, by omega, hy, S1.step (below_drewN (Below.refl _ _) _)⟩
    show Ending.returned (.int .i64 (wrap64 (bits .and .u64 (Y / 1099511627776) 255))) = _
    rw [hm, IntWalk.wrap64_in _ ⟨by omega, by omega⟩]

theorem Star.reidx {w0 w : World} {ps qs : List Ob} (S : Star w0 w ps) (σ : Nat → Nat) (h : ∀ i Q, qs[i]? = some Q → ps[σ i]? = some Q) (inj : ∀ i j, i < qs.length → j < qs.length → i ≠ j → σ i ≠ σ j) : Star w0 w qs := by
  obtain ⟨B, fp, hh, d⟩ := S
  have hl : ∀ i, i < qs.length → σ i < ps.length := fun i hi => (List.getElem?_eq_some_iff.1 (h i _ (List.getElem?_eq_getElem hi))).1
  exact ⟨B, fun i => fp (σ i), fun i Q hQ => hh _ Q (h i Q hQ), fun i j hij hi hj => d _ _ (inj i j hi hj hij) (hl i hi) (hl j hj)⟩

/-- A source of choices that has been asked K times at most. -/
def oSrc (q : Nat) (v : Value) (K : Nat) : Ob := ⟨fun w fp => (∃ (k : Nat) (seed : Int), k ≤ K ∧ 0 ≤ seed ∧ seed < 2 ^ 64 ∧ Blk w q [v, .int .i64 (k : Nat), .int .u64 seed] srcTy) ∧ fp = [q], fun hf h => by
  obtain ⟨⟨k, seed, h1, h2, h3, h4⟩, h5⟩ := h
  exact ⟨⟨k, seed, h1, h2, h3, h4.same (hf q (by rw [h5]; simp))⟩, h5⟩⟩

theorem Star.srcOf {w0 w : World} {ps : List Ob} {q : Nat} {v : Value} {K : Nat} (S : Star w0 w (oSrc q v K :: ps)) : ∃ (k : Nat) (seed : Int), k ≤ K ∧ 0 ≤ seed ∧ seed < 2 ^ 64 ∧ Star w0 w (oB q [v, .int .i64 (k : Nat), .int .u64 seed] srcTy :: ps) := by
  have S2 := S
  obtain ⟨_, fp, hh, _⟩ := S2
  obtain ⟨⟨⟨k, seed, h1, h2, h3, h4⟩, h5⟩, -, -⟩ := hh 0 _ rfl
  exact ⟨k, seed, h1, h2, h3, S.upd fun f hf nd hl => ⟨f, ⟨h4, hf.2⟩, nd, fun b hb => .inl hb, hl, But.refl _ _⟩⟩

theorem Star.toSrc {w0 w : World} {ps : List Ob} {q : Nat} {v : Value} {k K : Nat} {seed : Int} (S : Star w0 w (oB q [v, .int .i64 (k : Nat), .int .u64 seed] srcTy :: ps)) (hk : k ≤ K) (h0 : 0 ≤ seed) (h1 : seed < 2 ^ 64) : Star w0 w (oSrc q v K :: ps) :=
  S.upd fun f hf nd hl => ⟨f, ⟨⟨k, seed, hk, h0, h1, hf.1⟩, hf.2⟩, nd, fun b hb => .inl hb, hl, But.refl _ _⟩

theorem Star.moreSrc {w0 w : World} {ps : List Ob} {q : Nat} {v : Value} {K L : Nat} (S : Star w0 w (oSrc q v K :: ps)) (h : K ≤ L) : Star w0 w (oSrc q v L :: ps) := by
  obtain ⟨k, seed, h1, h2, h3, S⟩ := S.srcOf
  exact S.toSrc (Nat.le_trans h1 h) h2 h3

/-- What is asked of a source lies below. -/
def SrcIs (w0 : World) (v : Value) : Prop := ∃ code, bytesE.rd w0 w0.heap.size [v] code

set_option maxHeartbeats 1000000 in
theorem pickP_any (ps : List Ob) (q K : Nat) (n : Int) (v : Value) (w0 w : World) (hn : -9223372036854775808 ≤ n ∧ n ≤ 200) (hK : K ≤ 1000000) (hr : SrcIs w0 v) (S : Star w0 w (oSrc q v K :: ps)) :
    Calls Tryd.prog 41 #[.pointer (some ⟨q, 0, none⟩), .int .i64 n] w (fun e w' => ∃ x : Nat, e = .returned (.int .i64 x) ∧ (x = 0 ∨ (x : Int) < n) ∧ Star w0 w' (oSrc q v (K + 1) :: ps)) := by
  obtain ⟨code, hr⟩ := hr
  go_enter Tryd.func41, Tryd.ntmps41
  by_cases h1 : n ≤ 1
  · go_wp2
    go_ret
    exact ⟨0, rfl, .inl rfl, S.moreSrc (Nat.le_add_right _ _)⟩
  · obtain ⟨k, seed, k1, k2, k3, S⟩ := S.srcOf
    go_wp2_with fail
    refine (nextP_any ps q k v code seed w0 w (by omega) ⟨k2, k3⟩ hr S).mono ?_
    rintro e w1 ⟨x, y, rfl, hx, hy, S1⟩
    have t2 : ¬ 200 < n := by omega
    obtain ⟨m, rfl⟩ : ∃ m : Nat, n = m := ⟨n.toNat, by omega⟩
    obtain ⟨x, rfl⟩ : ∃ m : Nat, x = m := ⟨x.toNat, by omega⟩
    have hm0 : ¬ m = 0 := by omega
    obtain ⟨z, hz⟩ : ∃ z, z = x % m := ⟨_, rfl⟩
    have hrem : (x : Int).tmod (m : Int) = (z : Int) := by rw [hz]; rfl
    have hzm : z < m := by rw [hz]; exact Nat.mod_lt _ (by omega)
    clear hz
    go_wp2
    go_ret
    exact ⟨z, rfl, .inr (by omega), S1.toSrc (by omega) hy.1 hy.2⟩

set_option maxHeartbeats 1000000 in
theorem oneP_any (ps : List Ob) (q K : Nat) (n : Int) (v : Value) (w0 w : World) (hn : -9223372036854775808 ≤ n ∧ n ≤ 200) (hK : K ≤ 1000000) (hr : SrcIs w0 v) (S : Star w0 w (oSrc q v K :: ps)) :
    Calls Tryd.prog 39 #[.pointer (some ⟨q, 0, none⟩), .int .i64 n] w (fun e w' => ∃ b : Bool, e = .returned (.bool b) ∧ Star w0 w' (oSrc q v (K + 1) :: ps)) := by
  go_enter Tryd.func39, Tryd.ntmps39
  go_wp2_with fail
  refine (pickP_any ps q K n v w0 w hn hK hr S).mono ?_
  rintro e w1 ⟨x, rfl, hx, S⟩
  go_wp2
  go_ret
  exact ⟨_, rfl, S⟩

set_option maxHeartbeats 1000000 in
theorem amongP_any (ps : List Ob) (q K g n : Nat) (l : List Int) (v : Value) (w0 w : World) (hl : l.length = n) (hn : 1 ≤ n ∧ n ≤ 200) (hK : K ≤ 1000000) (hr : SrcIs w0 v) (S : Star w0 w (oSrc q v K :: oB g (l.map (Value.int .i64)) 2 :: ps)) :
    Calls Tryd.prog 66 #[.pointer (some ⟨q, 0, none⟩), .slice (some ⟨g, 0, none⟩) n n] w (fun e w' => ∃ x : Int, e = .returned (.int .i64 x) ∧ x ∈ l ∧ Star w0 w' (oSrc q v (K + 1) :: ps)) := by
  go_enter Tryd.func66, Tryd.ntmps66
  go_wp2_with fail
  refine (pickP_any _ q K n v w0 w ⟨by omega, by omega⟩ hK hr S).mono ?_
  rintro e w1 ⟨x, rfl, hx, S⟩
  have hxn : x < l.length := by omega
  have hc := (S.blk 1 rfl).cell x (v := .int .i64 l[x]) (by rw [List.getElem?_map, List.getElem?_eq_getElem hxn]; rfl)
  have hm := List.getElem_mem hxn
  generalize l[x] = y at hc hm
  have i1 : (0 : Int) ≤ (x : Int) := by omega
  have i2 : (x : Int) < (n : Int) := by omega
  clear hxn hx hl
  go_wp2
  go_ret
  exact ⟨y, rfl, hm, S.reidx (fun i => if i = 0 then 0 else i + 1) (fun i Q hQ => by cases i with | zero => exact hQ | succ i => exact hQ) (fun i j _ _ h => by
    cases i <;> cases j <;> simp at h ⊢ <;> omega)⟩

set_option maxHeartbeats 1000000 in
theorem textP_any (ps : List Ob) (q K g n : Nat) (l : List ByteArray) (v : Value) (w0 w : World) (hl : l.length = n) (hn : 1 ≤ n ∧ n ≤ 200) (hK : K ≤ 1000000) (hr : SrcIs w0 v) (S : Star w0 w (oSrc q v K :: oB g (l.map Value.string) 9 :: ps)) :
    Calls Tryd.prog 43 #[.pointer (some ⟨q, 0, none⟩), .slice (some ⟨g, 0, none⟩) n n] w (fun e w' => ∃ x : ByteArray, e = .returned (.string x) ∧ x ∈ l ∧ Star w0 w' (oSrc q v (K + 1) :: ps)) := by
  go_enter Tryd.func43, Tryd.ntmps43
  go_wp2_with fail
  refine (pickP_any _ q K n v w0 w ⟨by omega, by omega⟩ hK hr S).mono ?_
  rintro e w1 ⟨x, rfl, hx, S⟩
  have hxn : x < l.length := by omega
  have hc := (S.blk 1 rfl).cell x (v := .string l[x]) (by rw [List.getElem?_map, List.getElem?_eq_getElem hxn]; rfl)
  have hm := List.getElem_mem hxn
  generalize l[x] = y at hc hm
  have i1 : (0 : Int) ≤ (x : Int) := by omega
  have i2 : (x : Int) < (n : Int) := by omega
  clear hxn hx hl
  go_wp2
  go_ret
  exact ⟨y, rfl, hm, S.reidx (fun i => if i = 0 then 0 else i + 1) (fun i Q hQ => by cases i with | zero => exact hQ | succ i => exact hQ) (fun i j _ _ h => by
    cases i <;> cases j <;> simp at h ⊢ <;> omega)⟩

theorem fromP_any (v : Value) (w0 w : World) (ps : List Ob) (hr : SrcIs w0 v) (S : Star w0 w ps) :
    Calls Tryd.prog 19 #[v] w (fun e w' => ∃ q, e = .returned (.pointer (some ⟨q, 0, none⟩)) ∧ Star w0 w' (oSrc q v 0 :: ps)) := by
  obtain ⟨code, hr⟩ := hr
  obtain ⟨a, cap, rfl, -, -, -, -⟩ := rd_bytes hr
  go_enter Tryd.func19, Tryd.ntmps19
  go_wp2
  go_ret
  exact ⟨_, rfl, Star.toSrc (k := 0) (S.alloc (cs := #[.slice a code.length cap, .int .i64 0, .int .u64 0]) (ty := srcTy)) (Nat.le_refl _) (by decide) (by decide)⟩

end Go.Proofs.YtjochoghmpcgdaaDoor
