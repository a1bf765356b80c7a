/-
  The contract of the program's ValidRotator.
-/
import Derived.Test.YtmdcoekpmiphjaaStates
import Derived.Test.YtmdcoekpmiphjaaFuncsG
namespace Go.Proofs.Ytmdcoekpmiphjaa
open Go.RowKit

/-- A rotator that is one. -/
def validRot (r : Rot) : Bool :=
  within r.letters 1 3 && (within r.next.length 1 6 && (within r.start 0 (r.next.length - 1) && (decide ((r.fin.length : Int) = r.next.length) &&
    ((r.fin.all fun e => within e (-2) (r.next.length - 1)) && (r.next.all fun l => areStates l r.letters r.next.length)))))

set_option maxHeartbeats 400000 in
theorem validRotator_no1 (cs : List Value) (r : Rot) (B : Nat) (w : World) (hB0 : B ≤ w.heap.size) (h : rotsE.rd w B cs r) (h11 : within r.letters 1 3 = false) :
    Calls Try.prog 41 #[.agg cs.toArray] w (Gives (.bool false) w) := by
  obtain ⟨v3, v4, rfl, b1, b2, h3, h4⟩ := rd_Rot h
  obtain ⟨s3, n3, c3, rfl⟩ := rd_slice h3
  obtain ⟨s4, n4, c4, rfl⟩ := rd_slice h4
  have hlen := len_le h3
  have H3 := Lib.hid h3; clear h3 h
  have H4 := Lib.hid h4; clear h4
  obtain ⟨n, hn⟩ : ∃ n, n = r.next.length := ⟨_, rfl⟩
  rw [← hn] at hlen
  have Hn := Lib.hid hn; clear hn
  have X1 := Lib.hid h11; clear h11
  go_enter Try.func41, Try.ntmps41
  go_wp2_with fail
  generalize hW : w.alloc _ = w1
  obtain ⟨A0, hB⟩ := blk1 hW
  clear hW
  refine (size_intss _ _ w.heap.size _ (intssE.rd_of hB (intssE.rd_mono hB0 H3.out))).mono ?_
  rintro e w2 ⟨rfl, hbl⟩
  rw [← Hn.out]
  have B2 := hB.trans (hbl.mono hB.size)
  have A1 := A0.of hbl A0.lt
  clear hbl hB A0
  go_wp2_with fail
  generalize hW : w2.alloc _ = w3
  obtain ⟨N0, hB⟩ := blk1 hW
  clear hW
  have B3 := B2.trans (hB.mono B2.size)
  have A2 := A1.of hB A1.lt
  have L1 := A2.lt
  have L2 := N0.lt
  clear A1 B2 hB
  have d0 := A2.cell 0 rfl
  have d1 := A2.cell 1 rfl
  have d3 := A2.cell 3 rfl
  have d4 := N0.cell 0 rfl
  have HN0 := Lib.hid N0; clear N0
  have HA2 := Lib.hid A2; clear A2
  have H3 := Lib.hid (intssE.rd_of B3 (intssE.rd_mono hB0 H3.out))
  have H4 := Lib.hid (intsE.rd_of B3 (intsE.rd_mono hB0 H4.out))
  have HB3 := Lib.hid B3
  have hL := B3.size
  clear B3
  have hov := cell_over w3
  refine wp_region_over (by kernel_rfl) (by kernel_rfl) ?_
  repeat (go_big_quiet_step (first
    | (go_at_call 30; exact calls_over (isAlphabet_is _ _ _ X1.out))
    | (go_at_call_of 47 (Value.int IntKind.i64 (n : Int)); exact calls_over (within_is _ _ _ _ _ X2.out))
    | (go_at_call_of 47 (Value.int IntKind.i64 r.start); exact calls_over (within_is _ _ _ _ _ X3.out))
    | (go_at_call 56; exact calls_over (size_ints _ _ _ _ (intsE.rd_of ((below_over w3 _).mono hL) H4.out)))))
  refine wpQuiet_nil ?_
  intro w4 hw4
  go_wp2
  go_ret
  exact ⟨rfl, HB3.out.trans (hw4.mono hL)⟩

set_option maxHeartbeats 400000 in
theorem validRotator_no2 (cs : List Value) (r : Rot) (B : Nat) (w : World) (hB0 : B ≤ w.heap.size) (h : rotsE.rd w B cs r) (h11 : within r.letters 1 3 = true) (h12 : within r.next.length 1 6 = false) :
    Calls Try.prog 41 #[.agg cs.toArray] w (Gives (.bool false) w) := by
  obtain ⟨v3, v4, rfl, b1, b2, h3, h4⟩ := rd_Rot h
  obtain ⟨s3, n3, c3, rfl⟩ := rd_slice h3
  obtain ⟨s4, n4, c4, rfl⟩ := rd_slice h4
  have hlen := len_le h3
  have H3 := Lib.hid h3; clear h3 h
  have H4 := Lib.hid h4; clear h4
  obtain ⟨n, hn⟩ : ∃ n, n = r.next.length := ⟨_, rfl⟩
  rw [← hn] at h12 hlen
  have Hn := Lib.hid hn; clear hn
  have X1 := Lib.hid h11; clear h11
  have X2 := Lib.hid h12; clear h12
  go_enter Try.func41, Try.ntmps41
  go_wp2_with fail
  generalize hW : w.alloc _ = w1
  obtain ⟨A0, hB⟩ := blk1 hW
  clear hW
  refine (size_intss _ _ w.heap.size _ (intssE.rd_of hB (intssE.rd_mono hB0 H3.out))).mono ?_
  rintro e w2 ⟨rfl, hbl⟩
  rw [← Hn.out]
  have B2 := hB.trans (hbl.mono hB.size)
  have A1 := A0.of hbl A0.lt
  clear hbl hB A0
  go_wp2_with fail
  generalize hW : w2.alloc _ = w3
  obtain ⟨N0, hB⟩ := blk1 hW
  clear hW
  have B3 := B2.trans (hB.mono B2.size)
  have A2 := A1.of hB A1.lt
  have L1 := A2.lt
  have L2 := N0.lt
  clear A1 B2 hB
  have d0 := A2.cell 0 rfl
  have d1 := A2.cell 1 rfl
  have d3 := A2.cell 3 rfl
  have d4 := N0.cell 0 rfl
  have HN0 := Lib.hid N0; clear N0
  have HA2 := Lib.hid A2; clear A2
  have H3 := Lib.hid (intssE.rd_of B3 (intssE.rd_mono hB0 H3.out))
  have H4 := Lib.hid (intsE.rd_of B3 (intsE.rd_mono hB0 H4.out))
  have HB3 := Lib.hid B3
  have hL := B3.size
  clear B3
  have hov := cell_over w3
  refine wp_region_over (by kernel_rfl) (by kernel_rfl) ?_
  repeat (go_big_quiet_step (first
    | (go_at_call 30; exact calls_over (isAlphabet_is _ _ _ X1.out))
    | (go_at_call_of 47 (Value.int IntKind.i64 (n : Int)); exact calls_over (within_is _ _ _ _ _ X2.out))
    | (go_at_call_of 47 (Value.int IntKind.i64 r.start); exact calls_over (within_is _ _ _ _ _ X3.out))
    | (go_at_call 56; exact calls_over (size_ints _ _ _ _ (intsE.rd_of ((below_over w3 _).mono hL) H4.out)))))
  refine wpQuiet_nil ?_
  intro w4 hw4
  go_wp2
  go_ret
  exact ⟨rfl, HB3.out.trans (hw4.mono hL)⟩

set_option maxHeartbeats 400000 in
theorem validRotator_no3 (cs : List Value) (r : Rot) (B : Nat) (w : World) (hB0 : B ≤ w.heap.size) (h : rotsE.rd w B cs r) (h11 : within r.letters 1 3 = true) (h12 : within r.next.length 1 6 = true) (h13 : within r.start 0 (r.next.length - 1) = false) :
    Calls Try.prog 41 #[.agg cs.toArray] w (Gives (.bool false) w) := by
  obtain ⟨v3, v4, rfl, b1, b2, h3, h4⟩ := rd_Rot h
  obtain ⟨s3, n3, c3, rfl⟩ := rd_slice h3
  obtain ⟨s4, n4, c4, rfl⟩ := rd_slice h4
  have hlen := len_le h3
  have H3 := Lib.hid h3; clear h3 h
  have H4 := Lib.hid h4; clear h4
  obtain ⟨n, hn⟩ : ∃ n, n = r.next.length := ⟨_, rfl⟩
  rw [← hn] at h12 h13 hlen
  have Hn := Lib.hid hn; clear hn
  have bn : (1:Int) ≤ (n : Int) ∧ (n : Int) ≤ 6 := within_true.1 h12
  have X1 := Lib.hid h11; clear h11
  have X2 := Lib.hid h12; clear h12
  have X3 := Lib.hid h13; clear h13
  go_enter Try.func41, Try.ntmps41
  go_wp2_with fail
  generalize hW : w.alloc _ = w1
  obtain ⟨A0, hB⟩ := blk1 hW
  clear hW
  refine (size_intss _ _ w.heap.size _ (intssE.rd_of hB (intssE.rd_mono hB0 H3.out))).mono ?_
  rintro e w2 ⟨rfl, hbl⟩
  rw [← Hn.out]
  have B2 := hB.trans (hbl.mono hB.size)
  have A1 := A0.of hbl A0.lt
  clear hbl hB A0
  go_wp2_with fail
  generalize hW : w2.alloc _ = w3
  obtain ⟨N0, hB⟩ := blk1 hW
  clear hW
  have B3 := B2.trans (hB.mono B2.size)
  have A2 := A1.of hB A1.lt
  have L1 := A2.lt
  have L2 := N0.lt
  clear A1 B2 hB
  have d0 := A2.cell 0 rfl
  have d1 := A2.cell 1 rfl
  have d3 := A2.cell 3 rfl
  have d4 := N0.cell 0 rfl
  have HN0 := Lib.hid N0; clear N0
  have HA2 := Lib.hid A2; clear A2
  have H3 := Lib.hid (intssE.rd_of B3 (intssE.rd_mono hB0 H3.out))
  have H4 := Lib.hid (intsE.rd_of B3 (intsE.rd_mono hB0 H4.out))
  have HB3 := Lib.hid B3
  have hL := B3.size
  clear B3
  have hov := cell_over w3
  refine wp_region_over (by kernel_rfl) (by kernel_rfl) ?_
  repeat (go_big_quiet_step (first
    | (go_at_call 30; exact calls_over (isAlphabet_is _ _ _ X1.out))
    | (go_at_call_of 47 (Value.int IntKind.i64 (n : Int)); exact calls_over (within_is _ _ _ _ _ X2.out))
    | (go_at_call_of 47 (Value.int IntKind.i64 r.start); exact calls_over (within_is _ _ _ _ _ X3.out))
    | (go_at_call 56; exact calls_over (size_ints _ _ _ _ (intsE.rd_of ((below_over w3 _).mono hL) H4.out)))))
  refine wpQuiet_nil ?_
  intro w4 hw4
  go_wp2
  go_ret
  exact ⟨rfl, HB3.out.trans (hw4.mono hL)⟩

set_option maxHeartbeats 400000 in
theorem validRotator_no4 (cs : List Value) (r : Rot) (B : Nat) (w : World) (hB0 : B ≤ w.heap.size) (h : rotsE.rd w B cs r) (h11 : within r.letters 1 3 = true) (h12 : within r.next.length 1 6 = true) (h13 : within r.start 0 (r.next.length - 1) = true) (h14 : ¬ (r.fin.length : Int) = r.next.length) :
    Calls Try.prog 41 #[.agg cs.toArray] w (Gives (.bool false) w) := by
  obtain ⟨v3, v4, rfl, b1, b2, h3, h4⟩ := rd_Rot h
  obtain ⟨s3, n3, c3, rfl⟩ := rd_slice h3
  obtain ⟨s4, n4, c4, rfl⟩ := rd_slice h4
  have hlen := len_le h3
  have H3 := Lib.hid h3; clear h3 h
  have H4 := Lib.hid h4; clear h4
  obtain ⟨n, hn⟩ : ∃ n, n = r.next.length := ⟨_, rfl⟩
  rw [← hn] at h12 h13 h14 hlen
  have Hn := Lib.hid hn; clear hn
  have bn : (1:Int) ≤ (n : Int) ∧ (n : Int) ≤ 6 := within_true.1 h12
  have X1 := Lib.hid h11; clear h11
  have X2 := Lib.hid h12; clear h12
  have X3 := Lib.hid h13; clear h13
  have X4 : ((r.fin.length : Int) != (n : Int)) = true := by simpa using h14
  clear h14
  go_enter Try.func41, Try.ntmps41
  go_wp2_with fail
  generalize hW : w.alloc _ = w1
  obtain ⟨A0, hB⟩ := blk1 hW
  clear hW
  refine (size_intss _ _ w.heap.size _ (intssE.rd_of hB (intssE.rd_mono hB0 H3.out))).mono ?_
  rintro e w2 ⟨rfl, hbl⟩
  rw [← Hn.out]
  have B2 := hB.trans (hbl.mono hB.size)
  have A1 := A0.of hbl A0.lt
  clear hbl hB A0
  go_wp2_with fail
  generalize hW : w2.alloc _ = w3
  obtain ⟨N0, hB⟩ := blk1 hW
  clear hW
  have B3 := B2.trans (hB.mono B2.size)
  have A2 := A1.of hB A1.lt
  have L1 := A2.lt
  have L2 := N0.lt
  clear A1 B2 hB
  have d0 := A2.cell 0 rfl
  have d1 := A2.cell 1 rfl
  have d3 := A2.cell 3 rfl
  have d4 := N0.cell 0 rfl
  have HN0 := Lib.hid N0; clear N0
  have HA2 := Lib.hid A2; clear A2
  have H3 := Lib.hid (intssE.rd_of B3 (intssE.rd_mono hB0 H3.out))
  have H4 := Lib.hid (intsE.rd_of B3 (intsE.rd_mono hB0 H4.out))
  have HB3 := Lib.hid B3
  have hL := B3.size
  clear B3
  have hov := cell_over w3
  refine wp_region_over (by kernel_rfl) (by kernel_rfl) ?_
  repeat (go_big_quiet_step (first
    | (go_at_call 30; exact calls_over (isAlphabet_is _ _ _ X1.out))
    | (go_at_call_of 47 (Value.int IntKind.i64 (n : Int)); exact calls_over (within_is _ _ _ _ _ X2.out))
    | (go_at_call_of 47 (Value.int IntKind.i64 r.start); exact calls_over (within_is _ _ _ _ _ X3.out))
    | (go_at_call 56; exact calls_over (size_ints _ _ _ _ (intsE.rd_of ((below_over w3 _).mono hL) H4.out)))))
  refine wpQuiet_nil ?_
  intro w4 hw4
  go_wp2
  go_ret
  exact ⟨rfl, HB3.out.trans (hw4.mono hL)⟩

theorem cf_vr1 : ∀ args w1, (callFunc 58 args).run Try.prog w1 = .ok (.enter 58 args) w1 := fun _ _ => by kernel_rfl
theorem cf_vr2 : ∀ args w1, (callFunc 60 args).run Try.prog w1 = .ok (.enter 60 args) w1 := fun _ _ => by kernel_rfl

set_option maxHeartbeats 400000 in
theorem vr1_any (z s : Int) (b o : Nat) (w : World) (hc : w.cell? ⟨b, o, none⟩ = some (.int .i64 s)) (h0 : 0 ≤ s) (h1 : s ≤ 9223372036854775807) :
    Calls Try.prog 58 #[.int .i64 z, .pointer (some ⟨b, o, none⟩)] w (Gives (.bool (!within z (-2) (s - 1))) w) := by
  go_enter Try.func58, Try.ntmps58
  go_wp2_with fail
  refine (within_any _ _ _ _).mono ?_
  rintro e w1 ⟨rfl, hbl⟩
  go_wp2
  go_ret
  exact ⟨rfl, hbl⟩

set_option maxHeartbeats 400000 in
theorem vr2_any (v : Value) (l : List Int) (c s : Int) (B b b' : Nat) (w : World) (hB0 : B ≤ w.heap.size) (h : intsE.rd w B [v] l) (hl : w.cell? ⟨b, 0, none⟩ = some (.int .i64 c)) (hc : w.cell? ⟨b', 0, none⟩ = some (.int .i64 s)) (h0 : 0 ≤ s) (h1 : s ≤ 9223372036854775807) :
    Calls Try.prog 60 #[v, .pointer (some ⟨b, 0, none⟩), .pointer (some ⟨b', 0, none⟩)] w (Gives (.bool (!areStates l c s)) w) := by
  obtain ⟨a, n, cap, rfl⟩ := rd_slice h
  have H := Lib.hid h; clear h
  go_enter Try.func60, Try.ntmps60
  go_wp2_with fail
  refine (areStates_any _ l _ _ B _ hB0 H.out h0 h1).mono ?_
  rintro e w1 ⟨rfl, hbl⟩
  go_wp2
  go_ret
  exact ⟨rfl, hbl⟩

set_option maxHeartbeats 400000 in
theorem validRotator_yes (cs : List Value) (r : Rot) (B : Nat) (w : World) (hB0 : B ≤ w.heap.size) (h : rotsE.rd w B cs r) (h11 : within r.letters 1 3 = true) (h12 : within r.next.length 1 6 = true) (h13 : within r.start 0 (r.next.length - 1) = true) (h14 : (r.fin.length : Int) = r.next.length) (rb : Bool) (hrb : ((r.fin.all fun e => within e (-2) (r.next.length - 1)) && (r.next.all fun l => areStates l r.letters r.next.length)) = rb) :
    Calls Try.prog 41 #[.agg cs.toArray] w (Gives (.bool rb) w) := by
  obtain ⟨v3, v4, rfl, b1, b2, h3, h4⟩ := rd_Rot h
  obtain ⟨s3, n3, c3, rfl⟩ := rd_slice h3
  obtain ⟨s4, n4, c4, rfl⟩ := rd_slice h4
  have hlen := len_le h3
  have H3 := Lib.hid h3; clear h3 h
  have H4 := Lib.hid h4; clear h4
  obtain ⟨n, hn⟩ : ∃ n, n = r.next.length := ⟨_, rfl⟩
  rw [← hn] at h12 h13 h14 hlen hrb
  have HRB := Lib.hid hrb; clear hrb
  have Hn := Lib.hid hn; clear hn
  have bn : (1:Int) ≤ (n : Int) ∧ (n : Int) ≤ 6 := within_true.1 h12
  have X1 := Lib.hid h11; clear h11
  have X2 := Lib.hid h12; clear h12
  have X3 := Lib.hid h13; clear h13
  have X4 : ((r.fin.length : Int) != (n : Int)) = false := by simpa using h14
  clear h14
  go_enter Try.func41, Try.ntmps41
  go_wp2_with fail
  generalize hW : w.alloc _ = w1
  obtain ⟨A0, hB⟩ := blk1 hW
  clear hW
  refine (size_intss _ _ w.heap.size _ (intssE.rd_of hB (intssE.rd_mono hB0 H3.out))).mono ?_
  rintro e w2 ⟨rfl, hbl⟩
  rw [← Hn.out]
  have B2 := hB.trans (hbl.mono hB.size)
  have A1 := A0.of hbl A0.lt
  clear hbl hB A0
  go_wp2_with fail
  generalize hW : w2.alloc _ = w3
  obtain ⟨N0, hB⟩ := blk1 hW
  clear hW
  have B3 := B2.trans (hB.mono B2.size)
  have A2 := A1.of hB A1.lt
  have L1 := A2.lt
  have L2 := N0.lt
  clear A1 B2 hB
  have d0 := A2.cell 0 rfl
  have d1 := A2.cell 1 rfl
  have d3 := A2.cell 3 rfl
  have d4 := N0.cell 0 rfl
  have HN0 := Lib.hid N0; clear N0
  have HA2 := Lib.hid A2; clear A2
  have H3 := Lib.hid (intssE.rd_of B3 (intssE.rd_mono hB0 H3.out))
  have H4 := Lib.hid (intsE.rd_of B3 (intsE.rd_mono hB0 H4.out))
  have HB3 := Lib.hid B3
  have hL := B3.size
  clear B3
  have hov := cell_over w3
  refine wp_region_over (by kernel_rfl) (by kernel_rfl) ?_
  repeat (go_big_quiet_step (first
    | (go_at_call 30; exact calls_over (isAlphabet_is _ _ _ X1.out))
    | (go_at_call_of 47 (Value.int IntKind.i64 (n : Int)); exact calls_over (within_is _ _ _ _ _ X2.out))
    | (go_at_call_of 47 (Value.int IntKind.i64 r.start); exact calls_over (within_is _ _ _ _ _ X3.out))
    | (go_at_call 56; exact calls_over (size_ints _ _ _ _ (intsE.rd_of ((below_over w3 _).mono hL) H4.out)))))
  refine wpQuiet_nil ?_
  intro w4 hw4
  have A4 := HA2.out.of hw4 L1
  have N4 := HN0.out.of hw4 L2
  have L1 := A4.lt
  have L2 := N4.lt
  have H3 := Lib.hid (intssE.rd_of (hw4.mono hL) H3.out)
  have H4 := Lib.hid (intsE.rd_of (hw4.mono hL) H4.out)
  have B4 := HB3.out.trans (hw4.mono hL)
  clear d0 d1 d3 d4 HA2 HN0 hov hw4
  have d2 := A4.cell 2 rfl
  have d3 := A4.cell 3 rfl
  have HA4 := Lib.hid A4; clear A4
  have HN4 := Lib.hid N4; clear N4
  go_wp2_with fail
  refine (containsFunc_ints _ r.fin w.heap.size _ _ _ _ (fun z => !within z (-2) ((n : Int) - 1)) B4.size H4.out cf_vr1 (fun z w5 h5 => ?_)).mono ?_
  · exact vr1_any z n _ _ w5 ((HN4.out.of h5 L2).cell 0 rfl) (by omega) (by omega)
  rintro e w5 ⟨rfl, h5⟩
  have A5 := HA4.out.of h5 L1
  have N5 := HN4.out.of h5 L2
  have M1 := A5.lt
  have M2 := N5.lt
  have H5 := Lib.hid (intssE.rd_of (h5.mono B4.size) H3.out)
  have B5 := B4.trans (h5.mono B4.size)
  clear d2 d3 HA4 HN4 H3 H4
  have d2 := A5.cell 2 rfl
  have HA5 := Lib.hid A5; clear A5
  have HN5 := Lib.hid N5; clear N5
  have hx := any_not (fun e => within e (-2) ((n : Int) - 1)) r.fin
  by_cases hf : (r.fin.all fun e => within e (-2) ((n : Int) - 1)) = true
  · rw [hf] at hx
    have hx' : (r.fin.any fun x => !within x (-2) ((n : Int) - 1)) = false := by simpa using hx
    rw [hx']
    have HF := Lib.hid hf
    clear hx hx' hf
    go_wp2_with fail
    refine (containsFunc_intss _ r.next w.heap.size _ _ _ _ (fun l => !areStates l r.letters n) B5.size H5.out cf_vr2 (fun vk z w6 h6 hz => ?_)).mono ?_
    · exact vr2_any vk z r.letters n w.heap.size _ _ w6 (Nat.le_trans B5.size h6.size) hz ((HA5.out.of h6 M1).cell 0 rfl) ((HN5.out.of h6 M2).cell 0 rfl) (by omega) (by omega)
    rintro e w6 ⟨rfl, h6⟩
    have hx := Lib.hid (any_not (fun l => areStates l r.letters n) r.next)
    generalize (r.next.any fun x => !areStates x r.letters n) = bv at *
    go_wp2
    go_ret
    exact ⟨by rw [← HRB.out, HF.out, ← hx.out]; rfl, B5.trans (h6.mono B5.size)⟩
  · rw [Bool.not_eq_true] at hf
    rw [hf] at hx
    have hx' : (r.fin.any fun x => !within x (-2) ((n : Int) - 1)) = true := by simpa using hx
    rw [hx']
    have HF := Lib.hid hf
    clear hx hx' hf
    go_wp2
    go_ret
    exact ⟨by rw [← HRB.out, HF.out]; rfl, B5⟩

theorem validRotator_any (cs : List Value) (r : Rot) (B : Nat) (w : World) (hB0 : B ≤ w.heap.size) (h : rotsE.rd w B cs r) :
    Calls Try.prog 41 #[.agg cs.toArray] w (Gives (.bool (validRot r)) w) := by
  unfold validRot
  cases h1 : within r.letters 1 3 with
  | false => rw [Bool.false_and]; exact validRotator_no1 cs r B w hB0 h h1
  | true =>
    rw [Bool.true_and]
    cases h2 : within r.next.length 1 6 with
    | false => rw [Bool.false_and]; exact validRotator_no2 cs r B w hB0 h h1 h2
    | true =>
      rw [Bool.true_and]
      cases h3 : within r.start 0 (r.next.length - 1) with
      | false => rw [Bool.false_and]; exact validRotator_no3 cs r B w hB0 h h1 h2 h3
      | true =>
        rw [Bool.true_and]
        by_cases h4 : (r.fin.length : Int) = r.next.length
        · rw [decide_eq_true h4, Bool.true_and]; exact validRotator_yes cs r B w hB0 h h1 h2 h3 h4 _ rfl
        · rw [decide_eq_false h4, Bool.false_and]; exact validRotator_no4 cs r B w hB0 h h1 h2 h3 h4

end Go.Proofs.Ytmdcoekpmiphjaa
