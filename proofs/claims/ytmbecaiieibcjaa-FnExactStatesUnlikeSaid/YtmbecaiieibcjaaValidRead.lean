/-
  The contract of the program's ValidReader (written by a program of this claim's own, gen_reader.py).
-/
import Derived.Test.YtmbecaiieibcjaaStates
import Derived.Test.YtmbecaiieibcjaaFuncsG
namespace Go.Proofs.Ytmbecaiieibcjaa
open Go.RowKit

/-- A reader that is one. -/
def validRead (r : Reader) : Bool :=
  within r.letters 1 3 && (within r.accept.length 1 300 && (within r.start 0 (r.accept.length - 1) && (decide ((r.next.length : Int) = r.accept.length) && (r.next.all fun l => areStates l r.letters r.accept.length))))

theorem size_accept (v : Value) (l : List Bool) (B : Nat) (w : World) (h : boolsE.rd w B [v] l) : Calls Try.prog 50 #[v] w (Gives (.int .i64 l.length) w) := by
  obtain ⟨a, n, cap, rfl⟩ := rd_slice h
  obtain ⟨n', cap', hv, -⟩ := h
  simp only [List.cons.injEq, Value.slice.injEq, and_true] at hv
  obtain ⟨-, rfl, -⟩ := hv
  go_enter Try.func50, Try.ntmps50
  go_wp2
  go_ret
  exact ⟨rfl, Below.refl _ _⟩

theorem cf_vrd1 : ∀ args w1, (callFunc 53 args).run Try.prog w1 = .ok (.enter 53 args) w1 := fun _ _ => by kernel_rfl

set_option maxHeartbeats 400000 in
theorem vrd1_any (v : Value) (l : List Int) (c st : Int) (u2 u3 : Value) (s : Int) (B b b' : Nat) (w : World) (hB0 : B ≤ w.heap.size) (h : intsE.rd w B [v] l) (hA : Blk w b [.int .i64 c, .int .i64 st, u2, u3] 44) (hc : w.cell? ⟨b', 0, none⟩ = some (.int .i64 s)) (h0 : 0 ≤ s) (h1 : s ≤ 9223372036854775807) :
    Calls Try.prog 53 #[v, .pointer (some ⟨b, 0, none⟩), .pointer (some ⟨b', 0, none⟩)] w (Gives (.bool (!areStates l c s)) w) := by
  obtain ⟨a, n, cap, rfl⟩ := rd_slice h
  have H := Lib.hid h; clear h
  have hl := hA.cell 0 rfl
  go_enter Try.func53, Try.ntmps53
  go_wp2_with fail
  refine (areStates_any _ l _ _ B _ hB0 H.out h0 h1).mono ?_
  rintro e w1 ⟨rfl, hbl⟩
  go_wp2
  go_ret
  exact ⟨rfl, hbl⟩

set_option maxHeartbeats 1000000 in
theorem validReader_no1 (cs : List Value) (r : Reader) (B : Nat) (w : World) (hB0 : B ≤ w.heap.size) (h : readE.rd w B cs r) (h11 : within r.letters 1 3 = false) :
    Calls Try.prog 33 #[.agg cs.toArray] w (Gives (.bool false) w) := by
  obtain ⟨v3, v4, rfl, b1, b2, h3, h4⟩ := rd_Reader h
  obtain ⟨s3, n3, c3, rfl⟩ := rd_slice h3
  obtain ⟨s4, n4, c4, rfl⟩ := rd_slice h4
  have hlen := len_le h3
  have H3 := Lib.hid h3; clear h3 h
  have H4 := Lib.hid h4; clear h4
  obtain ⟨n, hn⟩ : ∃ n, n = r.accept.length := ⟨_, rfl⟩
  rw [← hn] at hlen
  have Hn := Lib.hid hn; clear hn
  have X1 := Lib.hid h11; clear h11
  go_enter Try.func33, Try.ntmps33
  go_wp2_with fail
  generalize hW : w.alloc _ = w1
  obtain ⟨A0, hB⟩ := blk1 hW
  clear hW
  refine (size_accept _ r.accept w.heap.size _ (boolsE.rd_of hB (boolsE.rd_mono hB0 H3.out))).mono ?_
  rintro e w2 ⟨rfl, hbl⟩
  rw [← Hn.out]
  have B2 := hB.trans (hbl.mono hB.size)
  have A1 := A0.of hbl A0.lt
  clear hbl hB A0
  go_wp2_with fail
  generalize hW : w2.alloc _ = w3
  obtain ⟨N0, hB⟩ := blk1 hW
  clear hW
  have B3 := B2.trans (hB.mono B2.size)
  have A2 := A1.of hB A1.lt
  have L1 := A2.lt
  have L2 := N0.lt
  clear A1 B2 hB
  have d0 := A2.cell 0 rfl
  have d1 := A2.cell 1 rfl
  have d3 := A2.cell 3 rfl
  have d4 := N0.cell 0 rfl
  have HN0 := Lib.hid N0; clear N0
  have HA2 := Lib.hid A2; clear A2
  have H4 := Lib.hid (intssE.rd_of B3 (intssE.rd_mono hB0 H4.out))
  have HB3 := Lib.hid B3
  have hL := B3.size
  clear B3
  have hov := cell_over w3
  refine wp_region_over (by kernel_rfl) (by kernel_rfl) ?_
  repeat (go_big_quiet_step (first
    | (go_at_call 51; exact calls_over (isAlphabet_is _ _ _ X1.out))))
  refine wpQuiet_nil ?_
  intro w4 hw4
  have B4 := HB3.out.trans (hw4.mono hL)
  clear hov
  go_wp2
  go_ret
  exact ⟨rfl, B4⟩

set_option maxHeartbeats 1000000 in
theorem validReader_no2 (cs : List Value) (r : Reader) (B : Nat) (w : World) (hB0 : B ≤ w.heap.size) (h : readE.rd w B cs r) (h11 : within r.letters 1 3 = true) (h12 : within r.accept.length 1 300 = false) :
    Calls Try.prog 33 #[.agg cs.toArray] w (Gives (.bool false) w) := by
  obtain ⟨v3, v4, rfl, b1, b2, h3, h4⟩ := rd_Reader h
  obtain ⟨s3, n3, c3, rfl⟩ := rd_slice h3
  obtain ⟨s4, n4, c4, rfl⟩ := rd_slice h4
  have hlen := len_le h3
  have H3 := Lib.hid h3; clear h3 h
  have H4 := Lib.hid h4; clear h4
  obtain ⟨n, hn⟩ : ∃ n, n = r.accept.length := ⟨_, rfl⟩
  rw [← hn] at hlen
  rw [← hn] at h12
  have Hn := Lib.hid hn; clear hn
  have X1 := Lib.hid h11; clear h11
  have X2 := Lib.hid h12; clear h12
  go_enter Try.func33, Try.ntmps33
  go_wp2_with fail
  generalize hW : w.alloc _ = w1
  obtain ⟨A0, hB⟩ := blk1 hW
  clear hW
  refine (size_accept _ r.accept w.heap.size _ (boolsE.rd_of hB (boolsE.rd_mono hB0 H3.out))).mono ?_
  rintro e w2 ⟨rfl, hbl⟩
  rw [← Hn.out]
  have B2 := hB.trans (hbl.mono hB.size)
  have A1 := A0.of hbl A0.lt
  clear hbl hB A0
  go_wp2_with fail
  generalize hW : w2.alloc _ = w3
  obtain ⟨N0, hB⟩ := blk1 hW
  clear hW
  have B3 := B2.trans (hB.mono B2.size)
  have A2 := A1.of hB A1.lt
  have L1 := A2.lt
  have L2 := N0.lt
  clear A1 B2 hB
  have d0 := A2.cell 0 rfl
  have d1 := A2.cell 1 rfl
  have d3 := A2.cell 3 rfl
  have d4 := N0.cell 0 rfl
  have HN0 := Lib.hid N0; clear N0
  have HA2 := Lib.hid A2; clear A2
  have H4 := Lib.hid (intssE.rd_of B3 (intssE.rd_mono hB0 H4.out))
  have HB3 := Lib.hid B3
  have hL := B3.size
  clear B3
  have hov := cell_over w3
  refine wp_region_over (by kernel_rfl) (by kernel_rfl) ?_
  repeat (go_big_quiet_step (first
    | (go_at_call 51; exact calls_over (isAlphabet_is _ _ _ X1.out))
    | (go_at_call_of 34 (Value.int IntKind.i64 (n : Int)); exact calls_over (within_is _ _ _ _ _ X2.out))))
  refine wpQuiet_nil ?_
  intro w4 hw4
  have B4 := HB3.out.trans (hw4.mono hL)
  clear hov
  go_wp2
  go_ret
  exact ⟨rfl, B4⟩

set_option maxHeartbeats 1000000 in
theorem validReader_no3 (cs : List Value) (r : Reader) (B : Nat) (w : World) (hB0 : B ≤ w.heap.size) (h : readE.rd w B cs r) (h11 : within r.letters 1 3 = true) (h12 : within r.accept.length 1 300 = true) (h13 : within r.start 0 (r.accept.length - 1) = false) :
    Calls Try.prog 33 #[.agg cs.toArray] w (Gives (.bool false) w) := by
  obtain ⟨v3, v4, rfl, b1, b2, h3, h4⟩ := rd_Reader h
  obtain ⟨s3, n3, c3, rfl⟩ := rd_slice h3
  obtain ⟨s4, n4, c4, rfl⟩ := rd_slice h4
  have hlen := len_le h3
  have H3 := Lib.hid h3; clear h3 h
  have H4 := Lib.hid h4; clear h4
  obtain ⟨n, hn⟩ : ∃ n, n = r.accept.length := ⟨_, rfl⟩
  rw [← hn] at hlen
  rw [← hn] at h12
  rw [← hn] at h13
  have Hn := Lib.hid hn; clear hn
  have bn : (1:Int) ≤ (n : Int) ∧ (n : Int) ≤ 300 := within_true.1 h12
  have X1 := Lib.hid h11; clear h11
  have X2 := Lib.hid h12; clear h12
  have X3 := Lib.hid h13; clear h13
  go_enter Try.func33, Try.ntmps33
  go_wp2_with fail
  generalize hW : w.alloc _ = w1
  obtain ⟨A0, hB⟩ := blk1 hW
  clear hW
  refine (size_accept _ r.accept w.heap.size _ (boolsE.rd_of hB (boolsE.rd_mono hB0 H3.out))).mono ?_
  rintro e w2 ⟨rfl, hbl⟩
  rw [← Hn.out]
  have B2 := hB.trans (hbl.mono hB.size)
  have A1 := A0.of hbl A0.lt
  clear hbl hB A0
  go_wp2_with fail
  generalize hW : w2.alloc _ = w3
  obtain ⟨N0, hB⟩ := blk1 hW
  clear hW
  have B3 := B2.trans (hB.mono B2.size)
  have A2 := A1.of hB A1.lt
  have L1 := A2.lt
  have L2 := N0.lt
  clear A1 B2 hB
  have d0 := A2.cell 0 rfl
  have d1 := A2.cell 1 rfl
  have d3 := A2.cell 3 rfl
  have d4 := N0.cell 0 rfl
  have HN0 := Lib.hid N0; clear N0
  have HA2 := Lib.hid A2; clear A2
  have H4 := Lib.hid (intssE.rd_of B3 (intssE.rd_mono hB0 H4.out))
  have HB3 := Lib.hid B3
  have hL := B3.size
  clear B3
  have hov := cell_over w3
  refine wp_region_over (by kernel_rfl) (by kernel_rfl) ?_
  repeat (go_big_quiet_step (first
    | (go_at_call 51; exact calls_over (isAlphabet_is _ _ _ X1.out))
    | (go_at_call_of 34 (Value.int IntKind.i64 (n : Int)); exact calls_over (within_is _ _ _ _ _ X2.out))
    | (go_at_call_of 34 (Value.int IntKind.i64 r.start); exact calls_over (within_is _ _ _ _ _ X3.out))))
  refine wpQuiet_nil ?_
  intro w4 hw4
  have B4 := HB3.out.trans (hw4.mono hL)
  clear hov
  go_wp2
  go_ret
  exact ⟨rfl, B4⟩

set_option maxHeartbeats 1000000 in
theorem validReader_no4 (cs : List Value) (r : Reader) (B : Nat) (w : World) (hB0 : B ≤ w.heap.size) (h : readE.rd w B cs r) (h11 : within r.letters 1 3 = true) (h12 : within r.accept.length 1 300 = true) (h13 : within r.start 0 (r.accept.length - 1) = true) (h14 : ¬ (r.next.length : Int) = r.accept.length) :
    Calls Try.prog 33 #[.agg cs.toArray] w (Gives (.bool false) w) := by
  obtain ⟨v3, v4, rfl, b1, b2, h3, h4⟩ := rd_Reader h
  obtain ⟨s3, n3, c3, rfl⟩ := rd_slice h3
  obtain ⟨s4, n4, c4, rfl⟩ := rd_slice h4
  have hlen := len_le h3
  have H3 := Lib.hid h3; clear h3 h
  have H4 := Lib.hid h4; clear h4
  obtain ⟨n, hn⟩ : ∃ n, n = r.accept.length := ⟨_, rfl⟩
  rw [← hn] at hlen
  rw [← hn] at h12
  rw [← hn] at h13
  rw [← hn] at h14
  have Hn := Lib.hid hn; clear hn
  have bn : (1:Int) ≤ (n : Int) ∧ (n : Int) ≤ 300 := within_true.1 h12
  have X1 := Lib.hid h11; clear h11
  have X2 := Lib.hid h12; clear h12
  have X3 := Lib.hid h13; clear h13
  have X4 : ((r.next.length : Int) != (n : Int)) = true := by simpa using h14
  clear h14
  go_enter Try.func33, Try.ntmps33
  go_wp2_with fail
  generalize hW : w.alloc _ = w1
  obtain ⟨A0, hB⟩ := blk1 hW
  clear hW
  refine (size_accept _ r.accept w.heap.size _ (boolsE.rd_of hB (boolsE.rd_mono hB0 H3.out))).mono ?_
  rintro e w2 ⟨rfl, hbl⟩
  rw [← Hn.out]
  have B2 := hB.trans (hbl.mono hB.size)
  have A1 := A0.of hbl A0.lt
  clear hbl hB A0
  go_wp2_with fail
  generalize hW : w2.alloc _ = w3
  obtain ⟨N0, hB⟩ := blk1 hW
  clear hW
  have B3 := B2.trans (hB.mono B2.size)
  have A2 := A1.of hB A1.lt
  have L1 := A2.lt
  have L2 := N0.lt
  clear A1 B2 hB
  have d0 := A2.cell 0 rfl
  have d1 := A2.cell 1 rfl
  have d3 := A2.cell 3 rfl
  have d4 := N0.cell 0 rfl
  have HN0 := Lib.hid N0; clear N0
  have HA2 := Lib.hid A2; clear A2
  have H4 := Lib.hid (intssE.rd_of B3 (intssE.rd_mono hB0 H4.out))
  have HB3 := Lib.hid B3
  have hL := B3.size
  clear B3
  have hov := cell_over w3
  refine wp_region_over (by kernel_rfl) (by kernel_rfl) ?_
  repeat (go_big_quiet_step (first
    | (go_at_call 51; exact calls_over (isAlphabet_is _ _ _ X1.out))
    | (go_at_call_of 34 (Value.int IntKind.i64 (n : Int)); exact calls_over (within_is _ _ _ _ _ X2.out))
    | (go_at_call_of 34 (Value.int IntKind.i64 r.start); exact calls_over (within_is _ _ _ _ _ X3.out))
    | (go_at_call 32; exact calls_over (size_intss _ r.next _ _ (intssE.rd_of ((below_over w3 _).mono hL) H4.out)))))
  refine wpQuiet_nil ?_
  intro w4 hw4
  have B4 := HB3.out.trans (hw4.mono hL)
  clear hov
  go_wp2
  go_ret
  exact ⟨rfl, B4⟩

set_option maxHeartbeats 1000000 in
theorem validReader_yes (cs : List Value) (r : Reader) (B : Nat) (w : World) (hB0 : B ≤ w.heap.size) (h : readE.rd w B cs r) (h11 : within r.letters 1 3 = true) (h12 : within r.accept.length 1 300 = true) (h13 : within r.start 0 (r.accept.length - 1) = true) (h14 : (r.next.length : Int) = r.accept.length) (rb : Bool) (hrb : (r.next.all fun l => areStates l r.letters r.accept.length) = rb) :
    Calls Try.prog 33 #[.agg cs.toArray] w (Gives (.bool rb) w) := by
  obtain ⟨v3, v4, rfl, b1, b2, h3, h4⟩ := rd_Reader h
  obtain ⟨s3, n3, c3, rfl⟩ := rd_slice h3
  obtain ⟨s4, n4, c4, rfl⟩ := rd_slice h4
  have hlen := len_le h3
  have H3 := Lib.hid h3; clear h3 h
  have H4 := Lib.hid h4; clear h4
  obtain ⟨n, hn⟩ : ∃ n, n = r.accept.length := ⟨_, rfl⟩
  rw [← hn] at hlen
  rw [← hn] at h12
  rw [← hn] at h13
  rw [← hn] at h14
  rw [← hn] at hrb
  have HRB := Lib.hid hrb; clear hrb
  have Hn := Lib.hid hn; clear hn
  have bn : (1:Int) ≤ (n : Int) ∧ (n : Int) ≤ 300 := within_true.1 h12
  have X1 := Lib.hid h11; clear h11
  have X2 := Lib.hid h12; clear h12
  have X3 := Lib.hid h13; clear h13
  have X4 : ((r.next.length : Int) != (n : Int)) = false := by simpa using h14
  clear h14
  go_enter Try.func33, Try.ntmps33
  go_wp2_with fail
  generalize hW : w.alloc _ = w1
  obtain ⟨A0, hB⟩ := blk1 hW
  clear hW
  refine (size_accept _ r.accept w.heap.size _ (boolsE.rd_of hB (boolsE.rd_mono hB0 H3.out))).mono ?_
  rintro e w2 ⟨rfl, hbl⟩
  rw [← Hn.out]
  have B2 := hB.trans (hbl.mono hB.size)
  have A1 := A0.of hbl A0.lt
  clear hbl hB A0
  go_wp2_with fail
  generalize hW : w2.alloc _ = w3
  obtain ⟨N0, hB⟩ := blk1 hW
  clear hW
  have B3 := B2.trans (hB.mono B2.size)
  have A2 := A1.of hB A1.lt
  have L1 := A2.lt
  have L2 := N0.lt
  clear A1 B2 hB
  have d0 := A2.cell 0 rfl
  have d1 := A2.cell 1 rfl
  have d3 := A2.cell 3 rfl
  have d4 := N0.cell 0 rfl
  have HN0 := Lib.hid N0; clear N0
  have HA2 := Lib.hid A2; clear A2
  have H4 := Lib.hid (intssE.rd_of B3 (intssE.rd_mono hB0 H4.out))
  have HB3 := Lib.hid B3
  have hL := B3.size
  clear B3
  have hov := cell_over w3
  refine wp_region_over (by kernel_rfl) (by kernel_rfl) ?_
  repeat (go_big_quiet_step (first
    | (go_at_call 51; exact calls_over (isAlphabet_is _ _ _ X1.out))
    | (go_at_call_of 34 (Value.int IntKind.i64 (n : Int)); exact calls_over (within_is _ _ _ _ _ X2.out))
    | (go_at_call_of 34 (Value.int IntKind.i64 r.start); exact calls_over (within_is _ _ _ _ _ X3.out))
    | (go_at_call 32; exact calls_over (size_intss _ r.next _ _ (intssE.rd_of ((below_over w3 _).mono hL) H4.out)))))
  refine wpQuiet_nil ?_
  intro w4 hw4
  have A4 := HA2.out.of hw4 L1
  have N4 := HN0.out.of hw4 L2
  have L1 := A4.lt
  have L2 := N4.lt
  have H4 := Lib.hid (intssE.rd_of (hw4.mono hL) H4.out)
  have B4 := HB3.out.trans (hw4.mono hL)
  clear d0 d1 d3 HA2 HN0 hov hw4
  have d3 := A4.cell 3 rfl
  have HA4 := Lib.hid A4; clear A4
  have HN4 := Lib.hid N4; clear N4
  go_wp2_with fail
  refine (containsFunc_intss _ r.next w.heap.size _ _ _ _ (fun l => !areStates l r.letters n) B4.size H4.out cf_vrd1 (fun vk z w6 h6 hz => ?_)).mono ?_
  · exact vrd1_any vk z r.letters r.start (.slice s3 n3 c3) (.slice s4 n4 c4) n w.heap.size _ _ w6 (Nat.le_trans B4.size h6.size) hz (HA4.out.of h6 L1) ((HN4.out.of h6 L2).cell 0 rfl) (by omega) (by omega)
  rintro e w6 ⟨rfl, h6⟩
  have hx := Lib.hid (any_not (fun l => areStates l r.letters n) r.next)
  generalize (r.next.any fun x => !areStates x r.letters n) = bv at *
  go_wp2
  go_ret
  exact ⟨by rw [← HRB.out, ← hx.out]; rfl, B4.trans (h6.mono B4.size)⟩

theorem validReader_any (cs : List Value) (r : Reader) (B : Nat) (w : World) (hB0 : B ≤ w.heap.size) (h : readE.rd w B cs r) :
    Calls Try.prog 33 #[.agg cs.toArray] w (Gives (.bool (validRead r)) w) := by
  unfold validRead
  cases h1 : within r.letters 1 3 with
  | false => rw [Bool.false_and]; exact validReader_no1 cs r B w hB0 h h1
  | true =>
    rw [Bool.true_and]
    cases h2 : within r.accept.length 1 300 with
    | false => rw [Bool.false_and]; exact validReader_no2 cs r B w hB0 h h1 h2
    | true =>
      rw [Bool.true_and]
      cases h3 : within r.start 0 (r.accept.length - 1) with
      | false => rw [Bool.false_and]; exact validReader_no3 cs r B w hB0 h h1 h2 h3
      | true =>
        rw [Bool.true_and]
        by_cases h4 : (r.next.length : Int) = r.accept.length
        · rw [decide_eq_true h4, Bool.true_and]; exact validReader_yes cs r B w hB0 h h1 h2 h3 h4 _ rfl
        · rw [decide_eq_false h4, Bool.false_and]; exact validReader_no4 cs r B w hB0 h h1 h2 h3 h4

theorem validReader_is (b : Bool) (cs : List Value) (r : Reader) (B : Nat) (w : World) (hB0 : B ≤ w.heap.size) (h : readE.rd w B cs r) (hb : validRead r = b) :
    Calls Try.prog 33 #[.agg cs.toArray] w (Gives (.bool b) w) := hb ▸ validReader_any cs r B w hB0 h

end Go.Proofs.Ytmbecaiieibcjaa
