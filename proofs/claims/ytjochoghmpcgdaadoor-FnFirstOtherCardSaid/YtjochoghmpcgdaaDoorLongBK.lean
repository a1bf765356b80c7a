/-
  The program's LongestWritten: what it refuses, and the join.
-/
import Derived.Test.YtjochoghmpcgdaaDoorLongIK
namespace Go.Proofs.YtjochoghmpcgdaaDoor
open Go.RowKit

set_option maxHeartbeats 8000000 in
set_option maxRecDepth 100000 in
theorem long_bad (b : Bool) (u : Writer) (N : Int) (cu : List Value) (B : Nat) (w : World) (hB : B ≤ w.heap.size) (hu : writE.rd w B cu u) (hb : writerOk u = b) (h : b = false ∨ ¬ (0 ≤ N ∧ N ≤ 60)) :
    Calls Tryd.prog 10 #[.agg cu.toArray, .int .i64 N] w (TxnIs ((⟨#[]⟩, 0), if b = false then 1 else 2) w) := by
  obtain ⟨u2, u3, rfl, a1, a2, a3, a4⟩ := rd_WriterF hu
  have S := (Star.nil w).alloc (cs := #[.int .i64 u.turner.letters, .int .i64 u.turner.start, u2, u3]) (ty := 30)
  have HU := Lib.hid (show ∀ w', Below w.heap.size w w' → Calls Tryd.prog 20 #[.agg #[.int .i64 u.turner.letters, .int .i64 u.turner.start, u2, u3]] w' (Gives (.bool b) w') from fun w' hbl => validWriter_is b [.int .i64 u.turner.letters, .int .i64 u.turner.start, u2, u3] u B w' (Nat.le_trans hB hbl.size) (writE.rd_of (hbl.mono hB) hu) hb)
  have HWI := Lib.hid (fun w' => within_any N 0 60 w')
  have H := Lib.hid h
  clear a1 a2 a3 a4 hu hb h
  cases b
  case false =>
    rw [if_pos rfl]
    go_enter Tryd.func10, Tryd.ntmps10
    go_wp2_with fail
    refine (HU.out _ (S.below.mono (Nat.le_refl _))).mono ?_
    rintro e w2 ⟨rfl, b1⟩
    replace S := S.step b1
    go_wp2
    go_ret3
    exact ⟨rfl, S.below⟩
  have hn : within N 0 60 = false := by
    cases hw : within N 0 60
    · rfl
    · rcases H.out with h | h
      · cases h
      · exact absurd (within_true.1 hw) h
  rw [if_neg (fun e => Bool.noConfusion e)]
  rw [hn] at HWI
  clear hn
  go_enter Tryd.func10, Tryd.ntmps10
  go_wp2_with fail
  refine (HU.out _ (S.below.mono (Nat.le_refl _))).mono ?_
  rintro e w2 ⟨rfl, b1⟩
  replace S := S.step b1
  go_wp2_with fail
  refine (HWI.out _).mono ?_
  rintro e w4 ⟨rfl, b1⟩
  replace S := S.step b1
  go_wp2
  go_ret3
  exact ⟨rfl, S.below⟩

theorem longest_any (u : Writer) (N : Int) (cu : List Value) (B : Nat) (w : World) (hB : B ≤ w.heap.size) (hu : writE.rd w B cu u) (T : (ByteArray × Int) × Int) (hT : longT u N = T) :
    Calls Tryd.prog 10 #[.agg cu.toArray, .int .i64 N] w (TxnIs T w) := by
  unfold longT at hT
  cases hbu : writerOk u
  case false =>
    rw [if_pos hbu] at hT
    subst hT
    exact long_bad false u N cu B w hB hu hbu (.inl rfl)
  rw [if_neg (by rw [hbu]; exact fun e => Bool.noConfusion e)] at hT
  by_cases h2 : ¬ (0 ≤ N ∧ N ≤ 60)
  · rw [if_pos h2] at hT
    subst hT
    exact long_bad true u N cu B w hB hu hbu (.inr h2)
  rw [if_neg h2] at hT
  have h4 : 0 ≤ N ∧ N ≤ 60 := by
    by_cases h : 0 ≤ N ∧ N ≤ 60
    · exact h
    · exact absurd h h2
  have K := (writOk_of hbu).t
  have hl1 := K.l1
  obtain ⟨c, hc⟩ : ∃ c : Nat, u.turner.letters = c := ⟨u.turner.letters.toNat, by omega⟩
  obtain ⟨n, rfl⟩ : ∃ n : Nat, N = n := ⟨N.toNat, by omega⟩
  rw [hc, Int.toNat_natCast, Int.toNat_natCast] at hT
  exact long_scan u n c cu B w hB hu hbu hc (by omega) T hT

end Go.Proofs.YtjochoghmpcgdaaDoor
