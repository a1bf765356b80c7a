/-
  StatesUnlike of the reference.
-/
import Derived.Test.YtmbecaiieibcjaaUnlI
import Derived.Test.YtmbecaiieibcjaaUnlS
import Derived.Test.YtmbecaiieibcjaaSpecReadR
namespace Go.Proofs.Ytmbecaiieibcjaa
open Go.RowKit

set_option maxHeartbeats 1000000 in
theorem specValidReader_any (cs : List Value) (r : Reader) (B : Nat) (w : World) (hB0 : B ≤ w.heap.size) (h : readE.rd w B cs r) :
    Calls Try.prog 27 #[.agg cs.toArray] w (Gives (.bool (validRead r)) w) := by
  obtain ⟨v3, v4, rfl, b1, b2, h3, h4⟩ := rd_Reader h
  have S := (Star.nil w).alloc (cs := #[.int .i64 r.letters, .int .i64 r.start, v3, v4]) (ty := 44)
  have HF := Lib.hid (l01Ok_any v3 v4 r B w.heap.size _ (S.blk 0 rfl).hd (boolsE.rd_of (S.below.mono hB0) h3) (intssE.rd_of (S.below.mono hB0) h4))
  clear h h3 h4
  go_enter Try.func27, Try.ntmps27
  go_wp2_with fail
  refine HF.out.mono ?_
  rintro e w1 ⟨rfl, b⟩
  have BB := S.below.trans (b.mono S.below.size)
  go_wp2
  go_ret
  exact ⟨rfl, BB⟩

theorem statesU_eq (r : Reader) (s t : Nat) (hv : validRead r = true) (hs : s < r.accept.length) (ht : t < r.accept.length) : ansU (unlU true r s t) = if s = t then (⟨#[]⟩, 6) else ansU (unlU false r s t) := by
  have K := rok_of hv
  rw [unlU_eq r r.accept.length s t (fun a ha l hl => (K.next ha hl).2) hs ht K.n300]
  by_cases h : s = t
  · rw [if_pos h, if_pos h]; rfl
  · rw [if_neg h, if_neg h]

set_option maxHeartbeats 2000000 in
theorem specStatesUnlike_is (x : ByteArray × Int) (cs : List Value) (r : Reader) (s t : Int) (B : Nat) (w : World) (hB0 : B ≤ w.heap.size) (h : readE.rd w B cs r) (hx : statesU r s t = x) (hs : bd64 s) (ht : bd64 t) :
    Calls Try.prog 11 #[.agg cs.toArray, .int .i64 s, .int .i64 t] w (Gives (pairVU x) w) := by
  have RA := Lib.hid h
  have HX := Lib.hid hx
  obtain ⟨v3, v4, rfl, b1, b2, h3, h4⟩ := rd_Reader h
  obtain ⟨ba, cap, rfl, -, -, -, -⟩ := rd_slice1 rfl h3
  obtain ⟨na, nn, nc, rfl⟩ := rd_slice h4
  have H3 := Lib.hid h3; have H4 := Lib.hid h4
  have S := (Star.nil w).alloc (cs := #[.int .i64 r.letters, .int .i64 r.start, .slice ba r.accept.length cap, .slice na nn nc]) (ty := 44)
  have e0 := (S.blk 0 rfl).cell 0 rfl
  have e1 := (S.blk 0 rfl).cell 1 rfl
  have e2 := (S.blk 0 rfl).cell 2 rfl
  have e3 := (S.blk 0 rfl).cell 3 rfl
  clear h hx h3 h4
  go_enter Try.func11, Try.ntmps11
  go_wp2_with fail
  generalize hW : w.alloc _ = w0 at S e0 e1 e2 e3 ⊢
  clear hW
  obtain ⟨g3, hg3⟩ : ∃ g, g = w.heap.size := ⟨_, rfl⟩
  rw [← hg3] at S e0 e1 e2 e3 ⊢
  clear hg3
  refine (specValidReader_any _ r B w0 (Nat.le_trans hB0 S.below.size) (readE.rd_of (S.below.mono hB0) RA.out)).mono ?_
  rintro e w2 ⟨rfl, b⟩
  replace S := S.step b
  clear b e0 e1 e2 e3
  cases hv : validRead r
  case false =>
    obtain rfl : x = (⟨#[]⟩, 1) := by rw [← HX.out]; unfold statesU; rw [hv]; rfl
    go_wp2
    go_ret2
    exact ⟨rfl, S.below⟩
  have K := rok_of hv
  obtain ⟨n, hn⟩ : ∃ n, n = r.accept.length := ⟨_, rfl⟩
  have hn1 : 1 ≤ n := by rw [hn]; exact K.n1
  have hn300 : n ≤ 300 := by rw [hn]; exact K.n300
  have hX : x = (if within s 0 ((n : Int) - 1) && within t 0 ((n : Int) - 1) then ansU (unlU true r s.toNat t.toNat) else (⟨#[]⟩, 2)) := by
    rw [← HX.out, hn]; unfold statesU; rw [hv]; rfl
  have HX2 := Lib.hid hX
  have H3' := Lib.hid (show boolsE.rd w B [.slice ba n cap] r.accept from by rw [hn]; exact H3.out)
  rw [← hn] at S
  have HN := Lib.hid hn; have HV := Lib.hid hv
  have wn : IntKind.i64.wrap ((n : Int) - 1) = (n : Int) - 1 := IntWalk.i64_in _ ⟨by omega, by omega⟩
  have e2 := (S.blk 0 rfl).cell 2 rfl
  clear hX hn hv K HX H3 RA
  go_wp2_with fail
  clear e2
  refine (l00In_k s 0 ((n : Int) - 1) w2).mono ?_
  rintro e w3 ⟨rfl, rfl⟩
  cases h1 : within s 0 ((n : Int) - 1)
  case false =>
    obtain rfl : x = (⟨#[]⟩, 2) := by rw [HX2.out, h1]; rfl
    go_wp2
    go_ret2
    exact ⟨rfl, S.below⟩
  go_wp2_with fail
  refine (l00In_k t 0 ((n : Int) - 1) w2).mono ?_
  rintro e w4 ⟨rfl, rfl⟩
  cases h2 : within t 0 ((n : Int) - 1)
  case false =>
    obtain rfl : x = (⟨#[]⟩, 2) := by rw [HX2.out, h1, h2]; rfl
    go_wp2
    go_ret2
    exact ⟨rfl, S.below⟩
  have k1 := within_true.1 h1
  have k2 := within_true.1 h2
  obtain ⟨s', rfl⟩ : ∃ k : Nat, s = k := ⟨s.toNat, by omega⟩
  obtain ⟨t', rfl⟩ : ∃ k : Nat, t = k := ⟨t.toNat, by omega⟩
  have hs' : s' < n := by omega
  have ht' : t' < n := by omega
  have hX : x = if s' = t' then (⟨#[]⟩, 6) else ansU (unlU false r s' t') := by
    rw [← statesU_eq r s' t' HV.out (by rw [← HN.out]; exact hs') (by rw [← HN.out]; exact ht'), HX2.out, h1, h2]; rfl
  obtain ⟨R, hR⟩ : ∃ R, R = unlU false r s' t' := ⟨_, rfl⟩
  rw [← hR] at hX
  have HX3 := Lib.hid hX
  have HR := Lib.hid hR.symm
  clear hX hR h1 h2 k1 k2 HX2 wn
  by_cases hst : s' = t'
  case pos =>
    obtain rfl : x = (⟨#[]⟩, 6) := by rw [HX3.out, if_pos hst]
    have tA : ((s' : Int) == (t' : Int)) = true := by simp [hst]
    go_wp2
    go_ret2
    exact ⟨rfl, S.below⟩
  have tA : ((s' : Int) == (t' : Int)) = false := by simp; omega
  have HX4 : Hid (x = ansU R) := Lib.hid (by rw [HX3.out, if_neg hst])
  clear HX3
  go_wp2_with fail
  refine (l05Unlike_any r s' t' g3 B R w2 (Nat.le_trans hB0 S.below.size) (S.blk 0 rfl) (boolsE.rd_of (S.below.mono hB0) H3'.out) (intssE.rd_of (S.below.mono hB0) H4.out) HV.out (by rw [← HN.out]; exact hs') (by rw [← HN.out]; exact ht') HR.out).mono ?_
  rintro e w5 ⟨rfl, b⟩
  replace S := S.step b
  clear b
  cases R with
  | none =>
    obtain rfl : x = (⟨#[]⟩, 6) := HX4.out
    unfold unlV
    go_wp2
    go_ret2
    exact ⟨rfl, S.below⟩
  | some l =>
    obtain ⟨W, hW⟩ : ∃ W, W = (⟨l.toArray⟩ : ByteArray) := ⟨_, rfl⟩
    have hl : W.size = l.length := by rw [hW]; rfl
    have hX : x = if 60 < W.size then (⟨#[]⟩, 3) else (W, 0) := by rw [HX4.out, hl, hW]; rfl
    have hu : unlV (some l) = .tuple #[.string W, .bool true] := by rw [hW]; rfl
    rw [hu]
    have HX5 := Lib.hid hX
    clear hX hl hW hu HX4 HR
    by_cases h6 : 60 < W.size
    · obtain rfl : x = (⟨#[]⟩, 3) := by rw [HX5.out, if_pos h6]
      have h6' : (60 : Int) < (W.size : Int) := by omega
      go_wp2
      go_ret2
      exact ⟨rfl, S.below⟩
    · obtain rfl : x = (W, 0) := by rw [HX5.out, if_neg h6]
      have h6' : ¬ (60 : Int) < (W.size : Int) := by omega
      go_wp2
      go_ret2
      exact ⟨rfl, S.below⟩

end Go.Proofs.Ytmbecaiieibcjaa
