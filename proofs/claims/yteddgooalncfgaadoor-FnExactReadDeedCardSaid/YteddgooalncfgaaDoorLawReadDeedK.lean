/-
  The law FnExactReadDeed: whatever the input, it returns true and leaves what was there as it was (written by a program of this claim's own, gen_read.py).
-/
import Derived.Test.YteddgooalncfgaaDoorReadIK
import Derived.LaidMore
import Derived.Stop.LaidErr
namespace Go.Proofs.YteddgooalncfgaaDoor
open Go.RowKit

theorem eqDeed_same (k a b : Int) (w : World) : Calls Tryd.prog 10 #[.agg #[.int .i64 k, .int .i64 a, .int .i64 b], .agg #[.int .i64 k, .int .i64 a, .int .i64 b]] w (Gives (.bool true) w) := by
  have t0 : (k != k) = false := by simp
  have t1 : (a != a) = false := by simp
  have t2 : (b != b) = false := by simp
  go_enter Tryd.func10, Tryd.ntmps10
  go_wp2
  go_ret
  exact ⟨rfl, ((Below.refl _ _).alloc (Nat.le_refl _) _).alloc (by simp) _⟩

theorem star_err : "*" ++ "errors.errorString" = "*errors.errorString" := by decide

/-- A sentinel's variable holds a value of an interface. -/
theorem err_is {n : String} {text : List UInt8} {r : List (String × Go.DataW Unit)} {W : World} {g : Nat} (h : laidMet Tryd.prog ((n, .iface "*errors.errorString" (.ptr (.agg [.lit (.string text)]))) :: r) W)
    (hg : Tryd.prog.globalNamed n = some g) (ht : (Tryd.prog.globals[g]?).map (·.type) = some 47) : ErrIs g W.heap.size W := by
  obtain ⟨a, s, hv, -⟩ := laid_sentinel h hg ht Tryd.underlying47
    (fun u h => typeName_ptr_named (nm := "errors.errorString") (tp := 91) (by rw [star_err]; kernel_rfl) (by kernel_rfl) (by decide) u (by rw [star_err]; exact h))
    Tryd.underlying91 Tryd.underlying93 rfl rfl Tryd.underlying9 (by kernel_rfl) (by kernel_rfl)
  have hc : W.cell? ⟨g, 0, none⟩ = some (.iface 91 (.pointer (some a))) := by simpa using World.var?_cell hg hv 0
  exact ⟨_, .inr ⟨_, _, rfl⟩, fun w' b => (b.cell (World.block_lt_of_cell? W _ hc)).trans hc⟩

set_option maxHeartbeats 1000000 in
theorem lawReadDeed_any (t : ByteArray) (m : Int) (w : World) (hz : t.size ≤ maxLen) (hM : MaxIs m w.heap.size w) (hT : Pow10 w.heap.size w) (h15 : ErrIs (Tryd.lays174_ren.g 15) w.heap.size w) (h16 : ErrIs (Tryd.lays174_ren.g 16) w.heap.size w) :
    Calls Tryd.prog 4 #[.string t] w (Gives (.bool true) w) := by
  simp only [maxLen] at hz
  by_cases hl : t.size ≤ 1048576
  case neg =>
    have t0 : (1048576 : Int) < (t.size : Int) := by omega
    clear hM hT h15 h16
    go_enter Tryd.func4, Tryd.ntmps4
    go_wp2
    go_ret
    exact ⟨rfl, Below.refl _ _⟩
  have t0 : ¬ (1048576 : Int) < (t.size : Int) := by omega
  have HM := Lib.hid hM; have HT := Lib.hid hT; have H15 := Lib.hid h15; have H16 := Lib.hid h16
  clear hM hT h15 h16
  have hsp := fun w' => Lib.hid (specReadDeed_any t w' hl)
  have him := fun w' a b c d => Lib.hid (implReadDeed_any t m w' hl a b c d)
  obtain ⟨k, a, b, hd⟩ : ∃ k a b, (readDeed t).1 = ⟨k, a, b⟩ := ⟨_, _, _, rfl⟩
  obtain ⟨n, hn⟩ : ∃ n, n = (readDeed t).2 := ⟨_, rfl⟩
  have e1 : deedV (readDeed t).1 = .agg #[.int .i64 k, .int .i64 a, .int .i64 b] := by rw [hd]; rfl
  rw [e1, ← hn] at hsp him
  clear e1 hd hn hl
  have tn : (n != n) = false := by simp
  go_enter Tryd.func4, Tryd.ntmps4
  go_wp2_with fail
  refine (hsp _).out.mono ?_
  rintro e w1 ⟨rfl, B1⟩
  clear hsp
  go_wp2_with fail
  generalize hW : w1.alloc _ = w2
  obtain ⟨A2, b2⟩ := blk1 hW
  clear hW
  have B2 := B1.trans (b2.mono B1.size)
  clear b2 B1
  refine (him _ ((HM.out.step B2).up B2.size) ((HT.out.step B2).up B2.size) ((H15.out.step B2).up B2.size) ((H16.out.step B2).up B2.size)).out.mono ?_
  rintro e w4 ⟨rfl, b4⟩
  have A4 := A2.of b4 A2.lt
  have B4 := B2.trans (b4.mono B2.size)
  clear A2 B2 b4 him
  have d0 := fun o => (A4.alloc o).cell 0 rfl; have d1 := fun o => (A4.alloc o).cell 1 rfl; have d2 := fun o => (A4.alloc o).cell 2 rfl
  go_wp2_with fail
  generalize hW : w4.alloc _ = w5
  obtain ⟨A5, b5⟩ := blk1 hW
  clear hW
  refine (eqDeed_same _ _ _ _).mono ?_
  rintro e w6 ⟨rfl, b6⟩
  have B6 := (B4.trans (b5.mono B4.size)).trans (b6.mono (Nat.le_trans B4.size b5.size))
  clear B4 b5 b6 A4 A5 d0 d1 d2
  go_wp2
  go_ret
  exact ⟨rfl, B6⟩

end Go.Proofs.YteddgooalncfgaaDoor
