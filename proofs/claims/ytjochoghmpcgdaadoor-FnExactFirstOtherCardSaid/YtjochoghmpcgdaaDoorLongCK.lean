/-
  The function that LongestWritten hands to wordsOf.
-/
import Derived.Test.YtjochoghmpcgdaaDoorFirstCK
import Derived.Deep.DeepCutAuto
namespace Go.Proofs.YtjochoghmpcgdaaDoor
open Go.RowKit

def stepL (u : Writer) (x : List UInt8) (s : Bool × Int × ByteArray) : (Bool × Int × ByteArray) × Bool :=
  if (writtenT u x).2 = 3 then ((true, s.2), true) else if (writtenT u x).2 = 0 ∧ s.2.1 < ((writtenT u x).1.size : Int) then ((false, ((writtenT u x).1.size : Int), ⟨x.toArray⟩), false) else ((false, s.2), false)

def mkL (go gb gw : Nat) (s : Bool × Int × ByteArray) : List Ob := [oB go [.bool s.1] 4, oB gb [.int .i64 s.2.1] 3, oB gw [.string s.2.2] 9]

set_option maxHeartbeats 8000000 in
set_option maxRecDepth 100000 in
theorem longC_any (u : Writer) (ga go gb gw : Nat) (w0 : World) (hu : RdWP u w0 ga) (x : List UInt8) (hx : wordOk u.turner.letters.toNat x) (hxl : x.length ≤ 60) (s : Bool × Int × ByteArray) (ps : List Ob) (w : World) (S : Star w0 w (mkL go gb gw s ++ ps)) :
    Calls Tryd.prog 26 #[.string ⟨x.toArray⟩, .pointer (some ⟨ga, 0, none⟩), .pointer (some ⟨go, 0, none⟩), .pointer (some ⟨gb, 0, none⟩), .pointer (some ⟨gw, 0, none⟩)] w (fun e w' => e = .returned (.bool (stepL u x s).2) ∧ Star w0 w' (mkL go gb gw (stepL u x s).1 ++ ps)) := by
  have hX : (⟨x.toArray⟩ : ByteArray).size ≤ 1000 := by show x.toArray.size ≤ 1000; rw [List.size_toArray]; omega
  have hB := S.below
  obtain ⟨ta, tp, tc, oa, op, oc, c0, c1, c2, c3, HU⟩ := written_p (hu.of hB) ⟨x.toArray⟩ hx hX
  have hUU := Lib.hid HU
  clear HU hu hX hx hB
  obtain ⟨X, hXe⟩ : ∃ X, X = (⟨x.toArray⟩ : ByteArray) := ⟨_, rfl⟩
  have hxx : x = X.data.toList := by rw [hXe]
  obtain ⟨s1, s2, s3⟩ := s
  have hstep : stepL u x (s1, s2, s3) = (if (writtenT u X.data.toList).2 = 3 then ((true, s2, s3), true) else if (writtenT u X.data.toList).2 = 0 ∧ s2 < ((writtenT u X.data.toList).1.size : Int) then ((false, ((writtenT u X.data.toList).1.size : Int), X), false) else ((false, s2, s3), false)) := by
    rw [← hxx, hXe]; rfl
  rw [hstep]
  rw [← hXe] at hUU ⊢
  clear hstep hXe hxx
  obtain ⟨⟨tu, cu⟩, hwu⟩ : ∃ y, y = writtenT u X.data.toList := ⟨_, rfl⟩
  rw [← hwu] at hUU
  rw [← hwu]
  simp only
  clear hwu
  obtain ⟨Z, hZ⟩ : ∃ Z : (Bool × Int × ByteArray) × Bool, Z = (if cu = 3 then ((true, s2, s3), true) else if cu = 0 ∧ s2 < (tu.size : Int) then ((false, (tu.size : Int), X), false) else ((false, s2, s3), false)) := ⟨_, rfl⟩
  rw [← hZ]
  have HZ := Lib.hid hZ
  clear hZ
  replace S : Star w0 w (oB go [.bool s1] 4 :: oB gb [.int .i64 s2] 3 :: oB gw [.string s3] 9 :: ps) := S
  go_enter Tryd.func26, Tryd.ntmps26
  go_wp2_with fail
  refine (hUU.out w (Below.refl _ _)).mono ?_
  rintro e w2 ⟨r1, rfl, b1⟩
  replace S := S.step b1
  clear b1 c0 c1 c2 c3 hUU
  have x0 := (S.blk 0 rfl).cell 0 rfl
  have xf := (S.blk 0 rfl).free
  have S2 := S.set 0 (.bool (cu == 3))
  go_upto_region 3 with fail
  generalize hW : w2.setCell _ _ = w3 at S2 ⊢
  clear hW S x0 xf
  by_cases h1 : cu = 3
  · have hz : Z = ((true, s2, s3), true) := HZ.out.trans (if_pos h1)
    subst hz
    subst h1
    have x0 := (S2.blk 0 rfl).cell 0 rfl
    clear HZ
    go_wp2
    go_ret
    exact ⟨rfl, S2⟩
  have tA : (cu == 3) = false := by simpa using h1
  have hz := HZ.out.trans (if_neg h1)
  have HZ2 := Lib.hid hz
  rw [tA] at S2 ⊢
  clear hz HZ h1
  have x0 := (S2.blk 0 rfl).cell 0 rfl
  have y0 := (S2.blk 1 rfl).cell 0 rfl
  by_cases h2 : cu = 0
  · by_cases h3 : s2 < (tu.size : Int)
    · have hz : Z = ((false, (tu.size : Int), X), false) := HZ2.out.trans (if_pos ⟨h2, h3⟩)
      subst hz
      subst h2
      have h4 : s2 < (tu.size : Int) := h3
      clear HZ2 tA h3
      have z0 := (S2.blk 2 rfl).cell 0 rfl
      have zf := (S2.blk 2 rfl).free
      have SW := ((Star.mid' (xs := [oB go [.bool false] 4, oB gb [.int .i64 s2] 3]) S2).set 0 (.string X)).mid (xs := [oB go [.bool false] 4, oB gb [.int .i64 s2] 3])
      have yw := (SW.blk 1 rfl).cell 0 rfl
      have yf := (SW.blk 1 rfl).free
      have SF := ((Star.mid' (xs := [oB go [.bool false] 4]) SW).set 0 (.int .i64 (tu.size : Nat))).mid (xs := [oB go [.bool false] 4])
      have xF := (SF.blk 0 rfl).cell 0 rfl
      go_wp2
      go_ret
      exact ⟨rfl, SF⟩
    · have hz : Z = ((false, s2, s3), false) := HZ2.out.trans (if_neg (fun h => h3 h.2))
      subst hz
      subst h2
      have h4 : ¬ s2 < (tu.size : Int) := h3
      clear HZ2 tA h3
      go_wp2
      go_ret
      exact ⟨rfl, S2⟩
  · have hz : Z = ((false, s2, s3), false) := HZ2.out.trans (if_neg (fun h => h2 h.1))
    subst hz
    have tB : (cu == 0) = false := by simpa using h2
    clear HZ2 h2
    go_wp2
    go_ret
    exact ⟨rfl, S2⟩

end Go.Proofs.YtjochoghmpcgdaaDoor
