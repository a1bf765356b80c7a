/-
  StatesUnlike of the program.
-/
import Derived.Test.YtmbecaiieibcjaaUnlP
namespace Go.Proofs.Ytmbecaiieibcjaa
open Go.RowKit

/-- What StatesUnlike answers. -/
def ansU : Option (List UInt8) → ByteArray × Int
  | none => (⟨#[]⟩, 6)
  | some w => if 60 < w.length then (⟨#[]⟩, 3) else (⟨w.toArray⟩, 0)
def statesU (r : Reader) (s t : Int) : ByteArray × Int :=
  if validRead r then (if within s 0 ((r.accept.length : Int) - 1) && within t 0 ((r.accept.length : Int) - 1) then ansU (unlU true r s.toNat t.toNat) else (⟨#[]⟩, 2)) else (⟨#[]⟩, 1)
def pairVU (x : ByteArray × Int) : Value := .tuple #[.string x.1, .int .i64 x.2]

set_option maxHeartbeats 1000000 in
theorem unlike_any (cs : List Value) (r : Reader) (s t B : Nat) (R : Option (List UInt8)) (w : World) (hB0 : B ≤ w.heap.size) (h : readE.rd w B cs r) (hv : validRead r = true) (hs : s < r.accept.length) (ht : t < r.accept.length) (hR : unlU true r s t = R) :
    Calls Try.prog 35 #[.agg cs.toArray, .int .i64 (s : Nat), .int .i64 (t : Nat)] w (Gives (unlV R) w) := by
  obtain ⟨v3, v4, rfl, b1, b2, h3, h4⟩ := rd_Reader h
  have S := (Star.nil w).alloc (cs := #[.int .i64 r.letters, .int .i64 r.start, v3, v4]) (ty := 44)
  have HRD := Lib.hid (rdU_of (S.blk 0 rfl) (boolsE.rd_of (S.below.mono hB0) h3) (intssE.rd_of (S.below.mono hB0) h4) hv)
  have HF := Lib.hid (firstText_any r s t w.heap.size R _ HRD.out hs ht hR)
  have e0 := (S.blk 0 rfl).cell 0 rfl
  clear h h3 h4
  go_enter Try.func35, Try.ntmps35
  go_wp2_with fail
  refine HF.out.mono ?_
  rintro e w1 ⟨rfl, b⟩
  have BB := S.below.trans (b.mono S.below.size)
  cases R with
  | none =>
    unfold unlV
    go_wp2
    go_ret2
    exact ⟨rfl, BB⟩
  | some l =>
    unfold unlV
    go_wp2
    go_ret2
    exact ⟨rfl, BB⟩

set_option maxHeartbeats 2000000 in
theorem statesUnlike_is (x : ByteArray × Int) (cs : List Value) (r : Reader) (s t : Int) (B : Nat) (w : World) (hB0 : B ≤ w.heap.size) (h : readE.rd w B cs r) (hx : statesU r s t = x) (hs : bd64 s) (ht : bd64 t) :
    Calls Try.prog 13 #[.agg cs.toArray, .int .i64 s, .int .i64 t] w (Gives (pairVU x) w) := by
  have RA := Lib.hid h
  have HX := Lib.hid hx
  obtain ⟨v3, v4, rfl, b1, b2, h3, h4⟩ := rd_Reader h
  obtain ⟨ba, bn, bc, rfl⟩ := rd_slice h3
  obtain ⟨na, nn, nc, rfl⟩ := rd_slice h4
  have H4 := Lib.hid h4
  have S := (Star.nil w).alloc (cs := #[.int .i64 r.letters, .int .i64 r.start, .slice ba bn bc, .slice na nn nc]) (ty := 44)
  have e0 := (S.blk 0 rfl).cell 0 rfl
  have e1 := (S.blk 0 rfl).cell 1 rfl
  have e2 := (S.blk 0 rfl).cell 2 rfl
  have e3 := (S.blk 0 rfl).cell 3 rfl
  clear h hx h3 h4
  go_enter Try.func13, Try.ntmps13
  go_wp2_with fail
  generalize hW : w.alloc _ = w0 at S e0 e1 e2 e3 ⊢
  clear hW
  refine (size_intss _ r.next B w0 (intssE.rd_of (S.below.mono hB0) H4.out)).mono ?_
  rintro e w1 ⟨rfl, b⟩
  replace S := S.step b
  clear b e0 e1 e2 e3
  have e0 := (S.blk 0 rfl).cell 0 rfl
  have e1 := (S.blk 0 rfl).cell 1 rfl
  have e2 := (S.blk 0 rfl).cell 2 rfl
  have e3 := (S.blk 0 rfl).cell 3 rfl
  go_wp2_with fail
  refine (validReader_any _ r B w1 (Nat.le_trans hB0 S.below.size) (readE.rd_of (S.below.mono hB0) RA.out)).mono ?_
  rintro e w2 ⟨rfl, b⟩
  replace S := S.step b
  clear b e0 e1 e2 e3
  cases hv : validRead r
  case false =>
    obtain rfl : x = (⟨#[]⟩, 1) := by rw [← HX.out]; unfold statesU; rw [hv]; rfl
    go_wp2
    go_ret2
    exact ⟨rfl, S.below⟩
  have K := rok_of hv
  obtain ⟨n, hn⟩ : ∃ n, n = r.accept.length := ⟨_, rfl⟩
  have hn1 : 1 ≤ n := by rw [hn]; exact K.n1
  have hn300 : n ≤ 300 := by rw [hn]; exact K.n300
  rw [K.nn, ← hn]
  have hX : x = (if within s 0 ((n : Int) - 1) && within t 0 ((n : Int) - 1) then ansU (unlU true r s.toNat t.toNat) else (⟨#[]⟩, 2)) := by
    rw [← HX.out, hn]; unfold statesU; rw [hv]; rfl
  have HX2 := Lib.hid hX
  have HN := Lib.hid hn; have HV := Lib.hid hv
  have wn : IntKind.i64.wrap ((n : Int) - 1) = (n : Int) - 1 := IntWalk.i64_in _ ⟨by omega, by omega⟩
  clear hX hn hv K HX
  go_wp2_with fail
  refine (within_any s 0 ((n : Int) - 1) w2).mono ?_
  rintro e w3 ⟨rfl, b⟩
  replace S := S.step b
  clear b
  cases h1 : within s 0 ((n : Int) - 1)
  case false =>
    obtain rfl : x = (⟨#[]⟩, 2) := by rw [HX2.out, h1]; rfl
    go_wp2
    go_ret2
    exact ⟨rfl, S.below⟩
  go_wp2_with fail
  refine (within_any t 0 ((n : Int) - 1) w3).mono ?_
  rintro e w4 ⟨rfl, b⟩
  replace S := S.step b
  clear b
  cases h2 : within t 0 ((n : Int) - 1)
  case false =>
    obtain rfl : x = (⟨#[]⟩, 2) := by rw [HX2.out, h1, h2]; rfl
    go_wp2
    go_ret2
    exact ⟨rfl, S.below⟩
  have k1 := within_true.1 h1
  have k2 := within_true.1 h2
  obtain ⟨s', rfl⟩ : ∃ k : Nat, s = k := ⟨s.toNat, by omega⟩
  obtain ⟨t', rfl⟩ : ∃ k : Nat, t = k := ⟨t.toNat, by omega⟩
  have hX : x = ansU (unlU true r s' t') := by rw [HX2.out, h1, h2]; rfl
  obtain ⟨R, hR⟩ : ∃ R, R = unlU true r s' t' := ⟨_, rfl⟩
  rw [← hR] at hX
  have HX3 := Lib.hid hX
  have HR := Lib.hid hR.symm
  have hs' : s' < n := by omega
  have ht' : t' < n := by omega
  clear hX hR h1 h2 k1 k2 HX2 wn
  have e0 := (S.blk 0 rfl).cell 0 rfl
  have e1 := (S.blk 0 rfl).cell 1 rfl
  have e2 := (S.blk 0 rfl).cell 2 rfl
  have e3 := (S.blk 0 rfl).cell 3 rfl
  go_wp2_with fail
  clear e0 e1 e2 e3
  refine (unlike_any _ r s' t' B R w4 (Nat.le_trans hB0 S.below.size) (readE.rd_of (S.below.mono hB0) RA.out) HV.out (by rw [← HN.out]; exact hs') (by rw [← HN.out]; exact ht') HR.out).mono ?_
  rintro e w5 ⟨rfl, b⟩
  replace S := S.step b
  clear b
  cases R with
  | none =>
    obtain rfl : x = (⟨#[]⟩, 6) := HX3.out
    unfold unlV
    go_wp2
    go_ret2
    exact ⟨rfl, S.below⟩
  | some l =>
    obtain ⟨W, hW⟩ : ∃ W, W = (⟨l.toArray⟩ : ByteArray) := ⟨_, rfl⟩
    have hl : W.size = l.length := by rw [hW]; rfl
    have hX : x = if 60 < W.size then (⟨#[]⟩, 3) else (W, 0) := by rw [HX3.out, hl, hW]; rfl
    have hu : unlV (some l) = .tuple #[.string W, .bool true] := by rw [hW]; rfl
    rw [hu]
    clear hu
    have HX4 := Lib.hid hX
    clear hX hl hW HX3 HR
    by_cases h6 : 60 < W.size
    · obtain rfl : x = (⟨#[]⟩, 3) := by rw [HX4.out, if_pos h6]
      have h6' : (60 : Int) < (W.size : Int) := by omega
      go_wp2
      go_ret2
      exact ⟨rfl, S.below⟩
    · obtain rfl : x = (W, 0) := by rw [HX4.out, if_neg h6]
      have h6' : ¬ (60 : Int) < (W.size : Int) := by omega
      go_wp2
      go_ret2
      exact ⟨rfl, S.below⟩

end Go.Proofs.Ytmbecaiieibcjaa
