/-
  The program's FirstOther.
-/
import Derived.Test.YtjochoghmpcgdaaDoorPackC
import Derived.Test.YtjochoghmpcgdaaDoorPackB
namespace Go.Proofs.YtjochoghmpcgdaaDoor
open Go.RowKit

/-- A text and a code handed back. -/
def TxtIs (T : ByteArray × Int) (w : World) (e : Ending) (w' : World) : Prop := e = .returned (.tuple #[.string T.1, .int .i64 T.2]) ∧ Below w.heap.size w w'

set_option maxHeartbeats 8000000 in
set_option maxRecDepth 100000 in
theorem first_bad (u v : Writer) (N : Int) (cu cv : List Value) (B : Nat) (w : World) (hB : B ≤ w.heap.size) (hu : writE.rd w B cu u) (hv : writE.rd w B cv v) (h : writerOk u = false ∨ writerOk v = false) :
    Calls Tryd.prog 9 #[.agg cu.toArray, .agg cv.toArray, .int .i64 N] w (TxtIs (⟨#[]⟩, 1) w) := by
  obtain ⟨u2, u3, rfl, a1, a2, a3, a4⟩ := rd_WriterF hu
  obtain ⟨v2, v3, rfl, b1, b2, b3, b4⟩ := rd_WriterF hv
  have S := ((Star.nil w).alloc (cs := #[.int .i64 u.turner.letters, .int .i64 u.turner.start, u2, u3]) (ty := 30)).alloc (cs := #[.int .i64 v.turner.letters, .int .i64 v.turner.start, v2, v3]) (ty := 30)
  have HU := Lib.hid (show ∀ b, writerOk u = b → ∀ w', Below w.heap.size w w' → Calls Tryd.prog 20 #[.agg #[.int .i64 u.turner.letters, .int .i64 u.turner.start, u2, u3]] w' (Gives (.bool b) w') from fun b hb w' hbl => validWriter_is b [.int .i64 u.turner.letters, .int .i64 u.turner.start, u2, u3] u B w' (Nat.le_trans hB hbl.size) (writE.rd_of (hbl.mono hB) hu) hb)
  have HV := Lib.hid (show ∀ b, writerOk v = b → ∀ w', Below w.heap.size w w' → Calls Tryd.prog 20 #[.agg #[.int .i64 v.turner.letters, .int .i64 v.turner.start, v2, v3]] w' (Gives (.bool b) w') from fun b hb w' hbl => validWriter_is b [.int .i64 v.turner.letters, .int .i64 v.turner.start, v2, v3] v B w' (Nat.le_trans hB hbl.size) (writE.rd_of (hbl.mono hB) hv) hb)
  clear a1 a2 a3 a4 b1 b2 b3 b4 hu hv
  go_enter Tryd.func9, Tryd.ntmps9
  go_wp2_with fail
  generalize hW : (w.alloc _).alloc _ = w0 at S ⊢
  cases hbu : writerOk u
  case false =>
    refine (HU.out false hbu w0 (S.below.mono (Nat.le_refl _))).mono ?_
    rintro e w2 ⟨rfl, b1⟩
    replace S := S.step b1
    go_wp2
    go_ret2
    exact ⟨rfl, S.below⟩
  have hbv : writerOk v = false := by
    rcases h with h | h
    · rw [hbu] at h; cases h
    · exact h
  refine (HU.out true hbu w0 (S.below.mono (Nat.le_refl _))).mono ?_
  rintro e w2 ⟨rfl, b1⟩
  replace S := S.step b1
  have y0 := (S.blk 0 rfl).cell 0 rfl
  have y1 := (S.blk 0 rfl).cell 1 rfl
  have y2 := (S.blk 0 rfl).cell 2 rfl
  have y3 := (S.blk 0 rfl).cell 3 rfl
  rw [World.size_alloc] at y0 y1 y2 y3
  clear hbu h b1
  go_wp2_with fail
  refine (HV.out false hbv w2 (S.below.mono (Nat.le_refl _))).mono ?_
  rintro e w3 ⟨rfl, b1⟩
  replace S := S.step b1
  go_wp2
  go_ret2
  exact ⟨rfl, S.below⟩

set_option maxHeartbeats 8000000 in
set_option maxRecDepth 100000 in
theorem first_two (u v : Writer) (N : Int) (cu cv : List Value) (B : Nat) (w : World) (hB : B ≤ w.heap.size) (hu : writE.rd w B cu u) (hv : writE.rd w B cv v) (hbu : writerOk u = true) (hbv : writerOk v = true) (h : u.turner.letters ≠ v.turner.letters ∨ ¬ (0 ≤ N ∧ N ≤ 60)) :
    Calls Tryd.prog 9 #[.agg cu.toArray, .agg cv.toArray, .int .i64 N] w (TxtIs (⟨#[]⟩, 2) w) := by
  obtain ⟨u2, u3, rfl, a1, a2, a3, a4⟩ := rd_WriterF hu
  obtain ⟨v2, v3, rfl, b1, b2, b3, b4⟩ := rd_WriterF hv
  have S := ((Star.nil w).alloc (cs := #[.int .i64 u.turner.letters, .int .i64 u.turner.start, u2, u3]) (ty := 30)).alloc (cs := #[.int .i64 v.turner.letters, .int .i64 v.turner.start, v2, v3]) (ty := 30)
  have HU := Lib.hid (show ∀ w', Below w.heap.size w w' → Calls Tryd.prog 20 #[.agg #[.int .i64 u.turner.letters, .int .i64 u.turner.start, u2, u3]] w' (Gives (.bool true) w') from fun w' hbl => validWriter_is true [.int .i64 u.turner.letters, .int .i64 u.turner.start, u2, u3] u B w' (Nat.le_trans hB hbl.size) (writE.rd_of (hbl.mono hB) hu) hbu)
  have HV := Lib.hid (show ∀ w', Below w.heap.size w w' → Calls Tryd.prog 20 #[.agg #[.int .i64 v.turner.letters, .int .i64 v.turner.start, v2, v3]] w' (Gives (.bool true) w') from fun w' hbl => validWriter_is true [.int .i64 v.turner.letters, .int .i64 v.turner.start, v2, v3] v B w' (Nat.le_trans hB hbl.size) (writE.rd_of (hbl.mono hB) hv) hbv)
  obtain ⟨lu, hlu⟩ : ∃ l, l = u.turner.letters := ⟨_, rfl⟩
  obtain ⟨lv, hlv⟩ : ∃ l, l = v.turner.letters := ⟨_, rfl⟩
  rw [← hlu] at h S HU ⊢
  rw [← hlv] at h S HV ⊢
  clear a1 a2 a3 a4 b1 b2 b3 b4 hu hv hlu hlv hbu hbv
  go_enter Tryd.func9, Tryd.ntmps9
  go_wp2_with fail
  generalize hW : (w.alloc _).alloc _ = w0 at S ⊢
  refine (HU.out w0 (S.below.mono (Nat.le_refl _))).mono ?_
  rintro e w2 ⟨rfl, b1⟩
  replace S := S.step b1
  have y0 := (S.blk 0 rfl).cell 0 rfl
  have y1 := (S.blk 0 rfl).cell 1 rfl
  have y2 := (S.blk 0 rfl).cell 2 rfl
  have y3 := (S.blk 0 rfl).cell 3 rfl
  rw [World.size_alloc] at y0 y1 y2 y3
  clear b1
  have H := Lib.hid h
  clear h
  go_wp2_with fail
  refine (HV.out w2 (S.below.mono (Nat.le_refl _))).mono ?_
  rintro e w3 ⟨rfl, b1⟩
  replace S := S.step b1
  clear y0 y1 y2 y3 b1
  have z0 := (S.blk 0 rfl).cell 0 rfl
  rw [World.size_alloc] at z0
  by_cases hl : lu = lv
  · have tA : (lu != lv) = false := by simpa using hl
    have hn : within N 0 60 = false := by
      have h := H.out
      rcases h with h | h
      · exact absurd hl h
      · cases hw : within N 0 60
        · rfl
        · exact absurd (within_true.1 hw) h
    have HWI := Lib.hid (fun w' => within_any N 0 60 w')
    rw [hn] at HWI
    clear hn hl
    go_wp2_with fail
    refine (HWI.out w3).mono ?_
    rintro e w4 ⟨rfl, b1⟩
    replace S := S.step b1
    go_wp2
    go_ret2
    exact ⟨rfl, S.below⟩
  · have tA : (lu != lv) = true := by simpa using hl
    clear hl
    go_wp2
    go_ret2
    exact ⟨rfl, S.below⟩

end Go.Proofs.YtjochoghmpcgdaaDoor
