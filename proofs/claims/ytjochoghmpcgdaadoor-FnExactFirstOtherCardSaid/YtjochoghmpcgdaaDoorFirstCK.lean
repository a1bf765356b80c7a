/-
  The function that FirstOther hands to wordsOf.
-/
import Derived.Test.YtjochoghmpcgdaaDoorWordsWK
import Derived.Test.YtjochoghmpcgdaaDoorWrtIK
namespace Go.Proofs.YtjochoghmpcgdaaDoor
open Go.RowKit

def stepO (u v : Writer) (x : List UInt8) (s : Int × ByteArray) : (Int × ByteArray) × Bool :=
  if (writtenT u x).2 = 3 ∨ (writtenT v x).2 = 3 then ((3, s.2), true) else if writtenT u x ≠ writtenT v x then ((0, ⟨x.toArray⟩), true) else (s, false)

def mkO (gc gw : Nat) (s : Int × ByteArray) : List Ob := [oB gc [.int .i64 s.1] 2, oB gw [.string s.2] 9]

theorem bytes_neO {x y : ByteArray} (h : ¬ x = y) : (x.toList == y.toList) = false := by
  rw [beq_eq_false_iff_ne]
  intro e
  rw [ByteArray.toList_eq, ByteArray.toList_eq] at e
  apply h
  cases x; cases y
  congr 1
  exact Array.toList_inj.1 e

theorem written_p {W : Writer} {w : World} {g : Nat} (h : RdWP W w g) (X : ByteArray) (hx : wordOk W.turner.letters.toNat X.data.toList) (hX : X.size ≤ 1000) :
    ∃ ta tp tc oa op oc, w.cell? ⟨g, 0, none⟩ = some (.int .i64 W.turner.letters) ∧ w.cell? ⟨g, 1, none⟩ = some (.int .i64 W.turner.start) ∧ w.cell? ⟨g, 2, none⟩ = some (.slice (some ⟨ta, tp, none⟩) W.turner.moves.length tc) ∧ w.cell? ⟨g, 3, none⟩ = some (.slice (some ⟨oa, op, none⟩) W.turner.moves.length oc) ∧
      ∀ w', Below w.heap.size w w' → Calls Tryd.prog 25 #[.agg #[.int .i64 W.turner.letters, .int .i64 W.turner.start, .slice (some ⟨ta, tp, none⟩) W.turner.moves.length tc, .slice (some ⟨oa, op, none⟩) W.turner.moves.length oc], .string X] w' (WrIs (writtenT W X.data.toList) w') := by
  obtain ⟨ta, tp, tc, c0, c1, c2, hr⟩ := h.t.get
  obtain ⟨oa, op, oc, c3, ho⟩ := h.o
  exact ⟨ta, tp, tc, oa, op, oc, c0, c1, c2, c3, fun w' hb => written_any W X _ ta tp tc oa op oc w' (hr.of hb) (ho.of hb) hx hX rfl⟩

set_option maxHeartbeats 8000000 in
set_option maxRecDepth 100000 in
theorem firstC_any (u v : Writer) (ga gb gc gw : Nat) (w0 : World) (hu : RdWP u w0 ga) (hv : RdWP v w0 gb) (hc : v.turner.letters = u.turner.letters) (x : List UInt8) (hx : wordOk u.turner.letters.toNat x) (hxl : x.length ≤ 60) (s : Int × ByteArray) (ps : List Ob) (w : World) (S : Star w0 w (mkO gc gw s ++ ps)) :
    Calls Tryd.prog 24 #[.string ⟨x.toArray⟩, .pointer (some ⟨ga, 0, none⟩), .pointer (some ⟨gb, 0, none⟩), .pointer (some ⟨gc, 0, none⟩), .pointer (some ⟨gw, 0, none⟩)] w (fun e w' => e = .returned (.bool (stepO u v x s).2) ∧ Star w0 w' (mkO gc gw (stepO u v x s).1 ++ ps)) := by
  have hX : (⟨x.toArray⟩ : ByteArray).size ≤ 1000 := by show x.toArray.size ≤ 1000; rw [List.size_toArray]; omega
  have hB := S.below
  obtain ⟨ta, tp, tc, oa, op, oc, c0, c1, c2, c3, HU⟩ := written_p (hu.of hB) ⟨x.toArray⟩ hx hX
  obtain ⟨ta', tp', tc', oa', op', oc', d0, d1, d2, d3, HV⟩ := written_p (hv.of hB) ⟨x.toArray⟩ (by rw [hc]; exact hx) hX
  have hUU := Lib.hid HU
  have hVV := Lib.hid HV
  clear HU HV hu hv hX hx hB hc
  obtain ⟨X, hXe⟩ : ∃ X, X = (⟨x.toArray⟩ : ByteArray) := ⟨_, rfl⟩
  have hxx : x = X.data.toList := by rw [hXe]
  have hstep : stepO u v x s = (if (writtenT u X.data.toList).2 = 3 ∨ (writtenT v X.data.toList).2 = 3 then ((3, s.2), true) else if writtenT u X.data.toList ≠ writtenT v X.data.toList then ((0, X), true) else (s, false)) := by
    rw [← hxx, hXe]; rfl
  rw [hstep]
  rw [← hXe] at hUU hVV ⊢
  clear hstep hXe hxx
  obtain ⟨⟨tu, cu⟩, hwu⟩ : ∃ y, y = writtenT u X.data.toList := ⟨_, rfl⟩
  obtain ⟨⟨tv, cv⟩, hwv⟩ : ∃ y, y = writtenT v X.data.toList := ⟨_, rfl⟩
  rw [← hwu] at hUU
  rw [← hwv] at hVV
  rw [← hwu, ← hwv]
  simp only
  clear hwu hwv
  obtain ⟨s1, s2⟩ := s
  obtain ⟨Z, hZ⟩ : ∃ Z : (Int × ByteArray) × Bool, Z = (if cu = 3 ∨ cv = 3 then ((3, s2), true) else if (tu, cu) ≠ (tv, cv) then ((0, X), true) else ((s1, s2), false)) := ⟨_, rfl⟩
  rw [← hZ]
  have HZ := Lib.hid hZ
  clear hZ
  go_enter Tryd.func24, Tryd.ntmps24
  go_wp2_with fail
  refine (hUU.out w (Below.refl _ _)).mono ?_
  rintro e w2 ⟨r1, rfl, b1⟩
  replace S := S.step b1
  replace d0 := (b1.cell (World.block_lt_of_cell? w _ d0)).trans d0
  replace d1 := (b1.cell (World.block_lt_of_cell? w _ d1)).trans d1
  replace d2 := (b1.cell (World.block_lt_of_cell? w _ d2)).trans d2
  replace d3 := (b1.cell (World.block_lt_of_cell? w _ d3)).trans d3
  go_wp2_with fail
  refine (hVV.out w2 b1).mono ?_
  rintro e w3 ⟨r2, rfl, b2⟩
  replace S := S.step b2
  clear b1 b2 c0 c1 c2 c3 d0 d1 d2 d3 hUU hVV
  replace S : Star w0 w3 (oB gc [.int .i64 s1] 2 :: oB gw [.string s2] 9 :: ps) := S
  have x0 := (S.blk 0 rfl).cell 0 rfl
  have xf := (S.blk 0 rfl).free
  have y0 := (S.blk 1 rfl).cell 0 rfl
  have yf := (S.blk 1 rfl).free
  by_cases h1 : cu = 3
  · have hz : Z = ((3, s2), true) := HZ.out.trans (if_pos (.inl h1))
    subst hz
    subst h1
    clear HZ
    go_wp2
    go_ret
    exact ⟨rfl, S.set 0 (.int .i64 3)⟩
  have tA : (cu == 3) = false := by simpa using h1
  by_cases h2 : cv = 3
  · have hz : Z = ((3, s2), true) := HZ.out.trans (if_pos (.inr h2))
    subst hz
    subst h2
    clear h1 HZ
    go_wp2
    go_ret
    exact ⟨rfl, S.set 0 (.int .i64 3)⟩
  have tB : (cv == 3) = false := by simpa using h2
  have hz := HZ.out.trans (if_neg (fun h => h.elim h1 h2))
  have HZ2 := Lib.hid hz
  clear h1 h2 HZ hz
  have SW := ((Star.mid' (xs := [oB gc [.int .i64 s1] 2]) S).set 0 (.string X)).mid (xs := [oB gc [.int .i64 s1] 2])
  have hne : gc ≠ gw := by
    obtain ⟨B, fp, hh, d⟩ := S
    have e1 := (hh 0 _ rfl).1.2
    have e2 := (hh 1 _ rfl).1.2
    have h := d 0 1 (by omega) (by simp) (by simp)
    intro e
    rw [e1, e2, e] at h
    exact h gw (by simp) (by simp)
  by_cases h3 : cu = cv
  · subst h3
    have tC : (cu == cu) = true := by simp
    by_cases h4 : tu = tv
    · subst h4
      have hz : Z = ((s1, s2), false) := HZ2.out.trans (if_neg (fun h => h rfl))
      subst hz
      clear HZ2
      have tD : (tu.toList == tu.toList) = true := by simp
      clear SW
      go_wp2
      go_ret
      exact ⟨rfl, S⟩
    · have tD : (tu.toList == tv.toList) = false := bytes_neO h4
      have hz : Z = ((0, X), true) := HZ2.out.trans (if_pos (fun h => h4 (congrArg Prod.fst h)))
      subst hz
      clear HZ2
      have z0 := (SW.blk 0 rfl).cell 0 rfl
      have zf := (SW.blk 0 rfl).free
      go_wp2
      go_ret
      exact ⟨rfl, SW.set 0 (.int .i64 0)⟩
  · have tC : (cu != cv) = true := by simpa using h3
    have hz : Z = ((0, X), true) := HZ2.out.trans (if_pos (fun h => h3 (congrArg Prod.snd h)))
    subst hz
    clear HZ2
    have z0 := (SW.blk 0 rfl).cell 0 rfl
    have zf := (SW.blk 0 rfl).free
    clear h3
    go_wp2
    go_ret
    exact ⟨rfl, SW.set 0 (.int .i64 0)⟩

end Go.Proofs.YtjochoghmpcgdaaDoor
