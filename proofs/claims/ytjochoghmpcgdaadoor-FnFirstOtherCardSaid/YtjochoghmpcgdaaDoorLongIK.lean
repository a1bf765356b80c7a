/-
  The program's LongestWritten: the scan.
-/
import Derived.Test.YtjochoghmpcgdaaDoorPackC
import Derived.Test.YtjochoghmpcgdaaDoorFirstMK
namespace Go.Proofs.YtjochoghmpcgdaaDoor
open Go.RowKit

def longE (s : Bool × Int × ByteArray) : (ByteArray × Int) × Int := if s.1 = true then ((⟨#[]⟩, 0), 3) else if s.2.1 < 0 then ((⟨#[]⟩, 0), 6) else ((s.2.2, s.2.1), 0)
def longT (u : Writer) (N : Int) : (ByteArray × Int) × Int :=
  if writerOk u = false then ((⟨#[]⟩, 0), 1) else if ¬ (0 ≤ N ∧ N ≤ 60) then ((⟨#[]⟩, 0), 2)
  else if 2000 < (allW u.turner.letters.toNat N.toNat).length then ((⟨#[]⟩, 0), 3) else longE (scanW (stepL u) (wordsN u.turner.letters.toNat N.toNat) (false, -1, ⟨#[]⟩)).1

/-- A text, its length and a code handed back. -/
def TxnIs (T : (ByteArray × Int) × Int) (w : World) (e : Ending) (w' : World) : Prop := e = .returned (.tuple #[.string T.1.1, .int .i64 T.1.2, .int .i64 T.2]) ∧ Below w.heap.size w w'

theorem hcall_long (y : ByteArray) (v1 v2 v3 v4 : Value) (w : World) : (callFunc 26 #[.string y, v1, v2, v3, v4]).run Tryd.prog w = .ok (.enter 26 #[.string y, v1, v2, v3, v4]) w := by
  have hf := Tryd.func26
  go_simp

set_option maxHeartbeats 8000000 in
set_option maxRecDepth 100000 in
theorem long_scan (u : Writer) (N c : Nat) (cu : List Value) (B : Nat) (w : World) (hB : B ≤ w.heap.size) (hu : writE.rd w B cu u) (hbu : writerOk u = true) (hcu : u.turner.letters = c) (hN : N ≤ 60) (T : (ByteArray × Int) × Int)
    (hT : (if 2000 < (allW c N).length then ((⟨#[]⟩, 0), 3) else longE (scanW (stepL u) (wordsN c N) (false, -1, ⟨#[]⟩)).1) = T) :
    Calls Tryd.prog 10 #[.agg cu.toArray, .int .i64 (N : Nat)] w (TxnIs T w) := by
  obtain ⟨u2, u3, rfl, a1, a2, a3, a4⟩ := rd_WriterF hu
  have hc : 1 ≤ c ∧ c ≤ 3 := by
    have K := (writOk_of hbu).t
    have h1 := K.l1
    have h3 := K.l3
    omega
  have S := (Star.nil w).alloc (cs := #[.int .i64 u.turner.letters, .int .i64 u.turner.start, u2, u3]) (ty := 30)
  have HU := Lib.hid (show ∀ w', Below w.heap.size w w' → Calls Tryd.prog 20 #[.agg #[.int .i64 u.turner.letters, .int .i64 u.turner.start, u2, u3]] w' (Gives (.bool true) w') from fun w' hbl => validWriter_is true [.int .i64 u.turner.letters, .int .i64 u.turner.start, u2, u3] u B w' (Nat.le_trans hB hbl.size) (writE.rd_of (hbl.mono hB) hu) hbu)
  have HUW := Lib.hid (rdWP_box (S.blk 0 rfl) (movessE.rd_of (S.below.mono hB) a3) (strssE.rd_of (S.below.mono hB) a4) hbu)
  have HCU := Lib.hid hcu; have HT := Lib.hid hT
  rw [hcu] at S HU HUW ⊢
  clear a1 a2 a3 a4 hu hbu hcu hT
  go_enter Tryd.func10, Tryd.ntmps10
  go_wp2_with fail
  generalize hW : w.alloc _ = w0 at S HUW ⊢
  clear hW
  obtain ⟨ga, hga⟩ : ∃ g, g = w.heap.size := ⟨_, rfl⟩
  rw [← hga] at S HUW ⊢
  have HB0 := Lib.hid S.below
  refine (HU.out w0 (S.below.mono (Nat.le_refl _))).mono ?_
  rintro e w2 ⟨rfl, b1⟩
  have S0 := (Star.nil w0).step b1
  clear b1 hga S
  have hwi : within (N : Int) 0 60 = true := within_true.2 ⟨by omega, by omega⟩
  have HWI := Lib.hid (fun w' => within_any (N : Int) 0 60 w')
  rw [hwi] at HWI
  clear hwi
  go_wp2_with fail
  refine (HWI.out w2).mono ?_
  rintro e w4 ⟨rfl, b1⟩
  replace S0 := S0.step b1
  clear b1 HU HWI
  have HCW := Lib.hid (countWords_any c N hc hN w4)
  go_wp2_with fail
  refine HCW.out.mono ?_
  rintro e w5 ⟨k, rfl, hk1, hk2, rfl⟩
  clear HCW
  by_cases hb : 2000 < k
  · have hT2 := HT.out
    rw [if_pos (hk2.1 hb)] at hT2
    subst hT2
    have hb2 : (2000 : Int) < (k : Int) := by omega
    clear hk2
    go_wp2
    go_ret3
    exact ⟨rfl, HB0.out.trans (S0.below.mono HB0.out.size)⟩
  have hT2 := HT.out
  rw [if_neg (fun h => hb (hk2.2 h))] at hT2
  have hb2 : ¬ (2000 : Int) < (k : Int) := by omega
  have HT2 := Lib.hid hT2
  clear hk2 hT2 HT hb
  have S1 := ((S0.alloc (cs := #[.string ⟨#[]⟩]) (ty := 9)).alloc (cs := #[.int .i64 (-1)]) (ty := 3)).alloc (cs := #[.bool false]) (ty := 4)
  rw [World.size_alloc, World.size_alloc] at S1
  go_wp2_with fail
  generalize hW : ((w5.alloc _).alloc _).alloc _ = w6 at S1 ⊢
  obtain ⟨gw, hgw⟩ : ∃ g, g = w5.heap.size := ⟨_, rfl⟩
  rw [← hgw] at S1 ⊢
  obtain ⟨gb, hgb⟩ : ∃ g, g = gw + 1 := ⟨_, rfl⟩
  rw [← hgb] at S1 ⊢
  obtain ⟨go, hgo⟩ : ∃ g, g = gb + 1 := ⟨_, rfl⟩
  rw [← hgo] at S1 ⊢
  clear hW hgw hgb hgo S0
  obtain ⟨⟨⟨s1, s2, s3⟩, bt⟩, hR⟩ : ∃ R, R = scanW (stepL u) (wordsN c N) (false, -1, ⟨#[]⟩) := ⟨_, rfl⟩
  have hT3 := HT2.out
  rw [← hR] at hT3
  have HT3 := Lib.hid hT3
  refine (wordsOf_any (stepL u) (mkL go gb gw) 26 (.pointer (some ⟨ga, 0, none⟩)) (.pointer (some ⟨go, 0, none⟩)) (.pointer (some ⟨gb, 0, none⟩)) (.pointer (some ⟨gw, 0, none⟩)) c N hc hN (fun y w => hcall_long y _ _ _ _ w) w0 w6 (false, -1, ⟨#[]⟩) [] ((s1, s2, s3), bt) (fun x hx s ps w S => by
      have hk := wordsN_ok c (by omega) N x hx
      exact longC_any u ga go gb gw w0 HUW.out x (by rw [HCU.out, Int.toNat_natCast]; exact hk.1) (by omega) s ps w S) S1 hR.symm).mono ?_
  rintro e w7 ⟨rfl, S⟩
  clear hR hT3 HT2 S1
  replace S : Star w0 w7 [oB go [.bool s1] 4, oB gb [.int .i64 s2] 3, oB gw [.string s3] 9] := S
  have x0 := (S.blk 0 rfl).cell 0 rfl
  have x1 := (S.blk 1 rfl).cell 0 rfl
  have x2 := (S.blk 2 rfl).cell 0 rfl
  cases s1
  case true =>
    have hT4 : ((⟨#[]⟩, 0), 3) = T := HT3.out
    subst hT4
    go_wp2
    go_ret3
    exact ⟨rfl, HB0.out.trans (S.below.mono HB0.out.size)⟩
  by_cases hs : s2 < 0
  · have hT4 : ((⟨#[]⟩, 0), 6) = T := by have h := HT3.out; unfold longE at h; rw [if_neg (fun e => Bool.noConfusion e), if_pos hs] at h; exact h
    subst hT4
    clear HT3
    go_wp2
    go_ret3
    exact ⟨rfl, HB0.out.trans (S.below.mono HB0.out.size)⟩
  · have hT4 : ((s3, s2), 0) = T := by have h := HT3.out; unfold longE at h; rw [if_neg (fun e => Bool.noConfusion e), if_neg hs] at h; exact h
    subst hT4
    clear HT3
    go_wp2
    go_quiet (fail)
    go_wp2
    go_ret3
    exact ⟨rfl, below_drewN (HB0.out.trans (S.below.mono HB0.out.size)) _⟩

end Go.Proofs.YtjochoghmpcgdaaDoor
