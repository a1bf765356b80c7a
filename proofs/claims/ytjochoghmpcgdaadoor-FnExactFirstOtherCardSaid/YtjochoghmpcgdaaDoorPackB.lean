/-
  What this claim leans on: values in cells, contracts of functions (11 texts of this claim's own, laid together).
-/
import Derived.Test.YtjochoghmpcgdaaDoorPackA
import Derived.Laws.CopyOwn
import Derived.Maps.Own
import Derived.Maps.OwnSet
import Derived.Maps.Views
import Derived.DeepKeys4
import Derived.WideKeyPair
/-
  Contracts of the laws' own szWriter and toWriter (written by a program of this claim's own, gen_writ.py).
-/
namespace Go.Proofs.YtjochoghmpcgdaaDoor
open Go.RowKit

def okWriter (r : Writer) : Prop := okTurner r.turner ∧ r.out.length ≤ 1048576 ∧ ∀ x, x ∈ r.out → x.length ≤ 1048576
def totWriter (r : Writer) : Nat := totTurner r.turner + (r.out.length + sumF strSz r.out)

theorem rd_WriterF {w : World} {B : Nat} {cs : List Value} {r : Writer} (h : writE.rd w B cs r) :
    ∃ v2 v3, cs = [.int .i64 r.turner.letters, .int .i64 r.turner.start, v2, v3] ∧ (-9223372036854775808 ≤ r.turner.letters ∧ r.turner.letters ≤ 9223372036854775807) ∧ (-9223372036854775808 ≤ r.turner.start ∧ r.turner.start ≤ 9223372036854775807) ∧ movessE.rd w B [v2] r.turner.moves ∧ strssE.rd w B [v3] r.out := by
  obtain ⟨v2, v3, rfl, h2, h3⟩ := rd_Writer h
  obtain ⟨v2', he, b0, b1, k2⟩ := rd_Turner h2
  obtain rfl : v2 = v2' := by simpa using he
  exact ⟨v2, v3, rfl, b0, b1, k2, h3⟩

theorem sumF_mem {α : Type} (f : α → Nat) (l : List α) (x : α) (h : x ∈ l) : f x ≤ sumF f l := by
  induction l with
  | nil => cases h
  | cons a l ih =>
    show f x ≤ f a + sumF f l
    rcases List.mem_cons.1 h with e | e
    · subst e; omega
    · have := ih e; omega

theorem ok_of_totWriter {r : Writer} (h : ¬ 1048576 < totWriter r) : okWriter r := by
  unfold totWriter at h
  refine ⟨ok_of_totTurner (by omega), by omega, fun x hx => ?_⟩
  have := sumF_mem strSz r.out x hx
  have h2 : x.length ≤ strSz x := by unfold strSz; omega
  omega

set_option maxHeartbeats 2000000 in
theorem toWriter_any (cs : List Value) (r : Writer) (B : Nat) (w : World) (hB0 : B ≤ w.heap.size) (h : writE.rd w B cs r) (hok : okWriter r) :
    Calls Tryd.prog 15 #[.agg cs.toArray] w (MakesS writE id r w) := by
  obtain ⟨v2, v3, rfl, h2, h3⟩ := rd_Writer h
  obtain ⟨v2', he, -, -, k2⟩ := rd_Turner h2
  obtain rfl : v2 = v2' := by simpa using he
  obtain ⟨a2, n2, c2, rfl⟩ := rd_slice k2
  obtain ⟨a3, n3, c3, rfl⟩ := rd_slice h3
  have H2 := Lib.hid h2
  have H3 := Lib.hid h3
  have HO := Lib.hid hok
  clear h h2 h3 k2 hok he
  have S := (((Star.nil w).alloc (cs := #[.int .i64 r.turner.letters, .int .i64 r.turner.start, .slice a2 n2 c2, .slice a3 n3 c3]) (ty := 43)).alloc (cs := #[.int .i64 0, .int .i64 0, .slice none 0 0, .slice none 0 0]) (ty := 30)).alloc (cs := #[.int .i64 0, .int .i64 0, .slice none 0 0, .slice none 0 0]) (ty := 30)
  rw [World.size_alloc, World.size_alloc] at S
  go_enter Tryd.func15, Tryd.ntmps15
  go_wp2_with fail
  generalize hW : ((w.alloc _).alloc _).alloc _ = w0 at S ⊢
  clear hW
  replace S : Star w w0 [oB (w.heap.size + 1 + 1) [.int .i64 0, .int .i64 0, .slice none 0 0, .slice none 0 0] 30, oB (w.heap.size + 1) [.int .i64 0, .int .i64 0, .slice none 0 0, .slice none 0 0] 30, oB w.heap.size [.int .i64 r.turner.letters, .int .i64 r.turner.start, .slice a2 n2 c2, .slice a3 n3 c3] 43] := S
  refine (toTurner_any _ r.turner B _ (Nat.le_trans hB0 S.below.size) (turnE.rd_of (S.below.mono hB0) H2.out) HO.out.1).mono ?_
  rintro e w1 ⟨x1, f1, rfl, o1, d1, lo1, b1⟩
  have S1 := S.made o1 d1 lo1 b1
  have o' := turnE.rd_ow o1
  obtain ⟨u2, rfl, -, -, k2⟩ := rd_Turner o'
  obtain ⟨s2, m2, p2, rfl⟩ := rd_slice k2
  clear o' k2 o1 d1 lo1 b1 S
  replace S1 := S1.sel [1, 2, 3, 0]
  have L0 := S1.blk 0 rfl
  have l0 := L0.cell 0 rfl
  have l1 := L0.cell 1 rfl
  have l2 := L0.cell 2 rfl
  have l3 := L0.cell 3 rfl
  have lf := L0.free
  have a3' := (S1.blk 2 rfl).cell 3 rfl
  have la := (S1.blk 2 rfl).lt
  go_wp2_with fail
  generalize hW : ((w1.setCell _ _).setCell _ _).setCell _ _ = w2
  have S2 : Star w w2 [oB (w.heap.size + 1 + 1) [.int .i64 r.turner.letters, .int .i64 r.turner.start, .slice s2 m2 p2, .slice none 0 0] 30, oB (w.heap.size + 1) [.int .i64 0, .int .i64 0, .slice none 0 0, .slice none 0 0] 30, oB w.heap.size [.int .i64 r.turner.letters, .int .i64 r.turner.start, .slice a2 n2 c2, .slice a3 n3 c3] 43, oE turnE [.int .i64 r.turner.letters, .int .i64 r.turner.start, .slice s2 m2 p2] r.turner] := by
    rw [← hW]
    exact ((S1.set 0 _).set 1 _).set 2 _
  clear hW L0 l0 l1 l2 l3 lf a3' la S1
  refine (toStringSS_any _ r.out B _ (Nat.le_trans hB0 S2.below.size) (strssE.rd_of (S2.below.mono hB0) H3.out) HO.out.2.1 HO.out.2.2).mono ?_
  rintro e w3 ⟨x2, f2, rfl, o2, d2, lo2, b2⟩
  obtain ⟨s3, m3, p3, rfl⟩ := ow_slice o2
  have S3 := (S2.made o2 d2 lo2 b2).sel [1, 2, 4, 0]
  clear o2 d2 lo2 b2 S2
  have L0 := S3.blk 0 rfl
  have l0 := L0.cell 0 rfl
  have l1 := L0.cell 1 rfl
  have l2 := L0.cell 2 rfl
  have l3 := L0.cell 3 rfl
  have lf := L0.free
  have R0 := S3.blk 1 rfl
  have r0 := R0.cell 0 rfl
  have r1 := R0.cell 1 rfl
  have r2 := R0.cell 2 rfl
  have r3 := R0.cell 3 rfl
  have rf := R0.free
  go_wp2
  generalize hW : ((((w3.setCell _ _).setCell _ _).setCell _ _).setCell _ _).setCell _ _ = w4
  have S4 : Star w w4 [oB (w.heap.size + 1) [.int .i64 r.turner.letters, .int .i64 r.turner.start, .slice s2 m2 p2, .slice s3 m3 p3] 30, oE turnE [.int .i64 r.turner.letters, .int .i64 r.turner.start, .slice s2 m2 p2] r.turner, oE strssE [.slice s3 m3 p3] r.out] := by
    rw [← hW]
    exact ((((((S3.set 3 _).sel [1, 2, 3]).set 0 _).set 1 _).set 2 _).set 3 _)
  have A3 := S4.blk 0 rfl
  have q0 := A3.cell 0 rfl
  have q1 := A3.cell 1 rfl
  have q2 := A3.cell 2 rfl
  have q3 := A3.cell 3 rfl
  have S5 := (S4.sel [1, 2]).pair.via (F := fun w : Writer => (w.turner, w.out)) r rfl
  obtain ⟨f9, k1, k2, k3⟩ := Star.out (E := writE) S5
  exact bodyPost_ret (v := .agg #[.int .i64 r.turner.letters, .int .i64 r.turner.start, .slice s2 m2 p2, .slice s3 m3 p3]) (by simp [results, Tryd.results15, go_sem, q0, q1, q2, q3]) rfl ⟨_, f9, rfl, k1, k2, k3, S5.below⟩

set_option maxHeartbeats 1000000 in
theorem szWriter_any (cs : List Value) (r : Writer) (B : Nat) (w : World) (left : Int) (hB0 : B ≤ w.heap.size) (h : writE.rd w B cs r) (h0 : 0 ≤ left) (h1 : left ≤ 1048576) :
    Calls Tryd.prog 13 #[.agg cs.toArray, .int .i64 left] w (Gives (.int .i64 (lim (totWriter r) left)) w) := by
  obtain ⟨v2, v3, rfl, h2, h3⟩ := rd_Writer h
  obtain ⟨v2', he, -, -, k2⟩ := rd_Turner h2
  obtain rfl : v2 = v2' := by simpa using he
  obtain ⟨a2, n2, c2, rfl⟩ := rd_slice k2
  obtain ⟨a3, n3, c3, rfl⟩ := rd_slice h3
  have H2 := Lib.hid h2
  have H3 := Lib.hid h3
  have HT : Hid (totWriter r = totTurner r.turner + (r.out.length + sumF strSz r.out)) := Lib.hid rfl
  clear h h2 h3 k2 he
  have S := (Star.nil w).alloc (cs := #[.int .i64 r.turner.letters, .int .i64 r.turner.start, .slice a2 n2 c2, .slice a3 n3 c3]) (ty := 43)
  go_enter Tryd.func13, Tryd.ntmps13
  go_wp2_with fail
  generalize hW : w.alloc _ = w0 at S ⊢
  clear hW
  replace S : Star w w0 [oB w.heap.size [.int .i64 r.turner.letters, .int .i64 r.turner.start, .slice a2 n2 c2, .slice a3 n3 c3] 43] := S
  refine (szTurner_any _ r.turner B _ left (Nat.le_trans hB0 S.below.size) (turnE.rd_of (S.below.mono hB0) H2.out) h0 h1).mono ?_
  rintro e w1 ⟨rfl, b⟩
  replace S := S.step b
  clear b
  obtain ⟨t1, ht1⟩ : ∃ t, t = totTurner r.turner := ⟨_, rfl⟩
  rw [← ht1] at HT ⊢
  obtain ⟨t2, ht2⟩ : ∃ t, t = r.out.length + sumF strSz r.out := ⟨_, rfl⟩
  rw [← ht2] at HT
  have HT2 := Lib.hid ht2
  clear ht1 ht2
  by_cases hx : left < t1
  · rw [lim_of_lt hx]
    have hr := Lib.hid (lim_of_lt (t := totWriter r) (left := left) (by have := HT.out; omega))
    go_wp2
    go_ret
    exact ⟨by rw [hr.out]; rfl, S.below⟩
  rw [lim_of_ge hx]
  obtain ⟨q, hq⟩ : ∃ q : Int, q = left - (t1 : Int) := ⟨_, rfl⟩
  rw [← hq]
  have hn : ¬ q < 0 := by omega
  have g1 : 0 ≤ q := by omega
  have g2 : q ≤ 1048576 := by omega
  have HQ := Lib.hid hq; clear hq
  have a3' := (S.blk 0 rfl).cell 3 rfl
  go_wp2_with fail
  refine (szStringSS_any _ r.out B _ q (Nat.le_trans hB0 S.below.size) (strssE.rd_of (S.below.mono hB0) H3.out) g1 g2).mono ?_
  rintro e w2 ⟨rfl, b⟩
  replace S := S.step b
  rw [← HT2.out]
  clear b a3'
  by_cases hy : q < t2
  · rw [lim_of_lt hy]
    have hr := Lib.hid (lim_of_lt (t := totWriter r) (left := left) (by have := HT.out; have := HQ.out; omega))
    go_wp2
    go_ret
    exact ⟨by rw [hr.out]; rfl, S.below⟩
  rw [lim_of_ge hy]
  have hr := Lib.hid (lim_of_ge (t := totWriter r) (left := left) (by have := HT.out; have := HQ.out; omega))
  have hh : ¬ q - (t2 : Int) < 0 := by omega
  have he := Lib.hid (show q - (t2 : Int) = left - (totWriter r : Int) by have := HT.out; have := HQ.out; omega)
  go_wp2
  go_ret
  exact ⟨by rw [hr.out, ← he.out]; rfl, S.below⟩

end Go.Proofs.YtjochoghmpcgdaaDoor

/-
  ValidWriter of the program: what it answers.
-/
namespace Go.Proofs.YtjochoghmpcgdaaDoor
open Go.RowKit

def orowOk (row : List ByteArray) (n : Nat) : Bool := decide (row.length = n) && row.all outOk
def writerOk (r : Writer) : Bool := validTurn r.turner && (decide (r.out.length = r.turner.moves.length) && (List.range r.turner.moves.length).all fun s => orowOk (r.out[s]?.getD default) (r.turner.moves[s]?.getD default).length)

theorem validTurn_is (b : Bool) (cs : List Value) (p : Turner) (B : Nat) (w : World) (hB0 : B ≤ w.heap.size) (h : turnE.rd w B cs p) (hb : validTurn p = b) :
    Calls Tryd.prog 44 #[.agg cs.toArray] w (Gives (.bool b) w) := hb ▸ validTurn_any cs p B w hB0 h

set_option maxRecDepth 100000 in
theorem containsOut_is (b : Bool) (v : Value) (l : List ByteArray) (B : Nat) (w : World) (hB0 : B ≤ w.heap.size) (h : strsE.rd w B [v] l) (hb : (l.any fun t => !outOk t) = b) :
    Calls Tryd.prog 45 #[v, .func (.func 46) #[] #[]] w (Gives (.bool b) w) := by
  subst hb
  refine containsFunc_strs v l B w _ #[] #[] _ hB0 h ?_ ?_
  · intro args w1
    rfl
  · intro vk z w1 _ hz
    obtain ⟨hv, hs⟩ := hz
    obtain rfl : vk = .string z := by simpa using hv
    exact notOut_any z w1 hs

theorem any_out (l : List ByteArray) : (l.any fun t => !outOk t) = !l.all outOk := by
  induction l with
  | nil => rfl
  | cons a l ih => rw [List.any_cons, List.all_cons, ih]; cases outOk a <;> rfl

set_option maxHeartbeats 2000000 in
theorem validWriter_any (cs : List Value) (r : Writer) (B : Nat) (w : World) (hB0 : B ≤ w.heap.size) (h : writE.rd w B cs r) :
    Calls Tryd.prog 20 #[.agg cs.toArray] w (Gives (.bool (writerOk r)) w) := by
  obtain ⟨v2, v3, rfl, h2, h3⟩ := rd_Writer h
  obtain ⟨v2', he, -, -, k2⟩ := rd_Turner h2
  obtain rfl : v2 = v2' := by simpa using he
  obtain ⟨a, cap, rfl, a1, a2, -, a4⟩ := rd_slice1 rfl k2
  obtain ⟨b, bcap, rfl, b1, b2, -, b4⟩ := rd_slice1 rfl h3
  have H2 := Lib.hid h2
  clear h he k2 h3 h2
  have A4 := Lib.hid a4; clear a4
  have B4 := Lib.hid b4; clear b4
  cases hv : validTurn r.turner
  · have HV := Lib.hid hv; clear hv
    have hno : writerOk r = false := by unfold writerOk; rw [HV.out]; rfl
    rw [hno]
    go_enter Tryd.func20, Tryd.ntmps20
    go_wp2_with fail
    generalize hW : w.alloc _ = w0
    obtain ⟨A0, hB⟩ := blk1 hW
    clear hW
    refine (validTurn_is false _ r.turner B _ (Nat.le_trans hB0 hB.size) (turnE.rd_of (hB.mono hB0) H2.out) HV.out).mono ?_
    rintro e w1 ⟨rfl, b9⟩
    go_wp2
    go_ret
    exact ⟨rfl, hB.trans (b9.mono hB.size)⟩
  have HV := Lib.hid hv; clear hv
  obtain ⟨n, hn⟩ : ∃ n, n = r.turner.moves.length := ⟨_, rfl⟩
  obtain ⟨m, hm⟩ : ∃ n, n = r.out.length := ⟨_, rfl⟩
  rw [← hn] at A4 H2 a1 ⊢
  rw [← hm] at B4 b1 ⊢
  have HN := Lib.hid hn; clear hn
  have HM := Lib.hid hm; clear hm
  have HR : Hid (writerOk r = (decide (m = n) && (List.range n).all fun s => orowOk (r.out[s]?.getD default) (r.turner.moves[s]?.getD default).length)) := Lib.hid (by unfold writerOk; rw [HV.out, HN.out, HM.out]; rfl)
  obtain ⟨res, hres⟩ : ∃ x, x = writerOk r := ⟨_, rfl⟩
  rw [← hres]
  have HRES := Lib.hid (hres.trans HR.out); clear hres HR
  by_cases hmn : m = n
  case neg =>
    have hno : res = false := by rw [HRES.out, decide_eq_false hmn]; rfl
    have hb1 : ((m : Int) != (n : Int)) = true := by simp; omega
    rw [hno]
    go_enter Tryd.func20, Tryd.ntmps20
    go_wp2_with fail
    generalize hW : w.alloc _ = w0
    obtain ⟨A0, hB⟩ := blk1 hW
    clear hW
    refine (validTurn_is true _ r.turner B _ (Nat.le_trans hB0 hB.size) (turnE.rd_of (hB.mono hB0) H2.out) HV.out).mono ?_
    rintro e w1 ⟨rfl, b9⟩
    have A0 := A0.of b9 A0.lt
    have c2 := A0.cell 2 rfl
    have c3 := A0.cell 3 rfl
    go_wp2
    go_ret
    exact ⟨rfl, hB.trans (b9.mono hB.size)⟩
  subst hmn
  have hres : Hid (res = (List.range m).all fun s => orowOk (r.out[s]?.getD default) (r.turner.moves[s]?.getD default).length) := Lib.hid (by rw [HRES.out, decide_eq_true rfl, Bool.true_and])
  clear HRES
  have hb1 : ((m : Int) != (m : Int)) = false := by simp
  go_enter Tryd.func20, Tryd.ntmps20
  go_wp2_with fail
  generalize hW : w.alloc _ = w0
  obtain ⟨A0, hB⟩ := blk1 hW
  clear hW
  refine (validTurn_is true _ r.turner B _ (Nat.le_trans hB0 hB.size) (turnE.rd_of (hB.mono hB0) H2.out) HV.out).mono ?_
  rintro e w1 ⟨rfl, b9⟩
  have HB := Lib.hid (hB.trans (b9.mono hB.size))
  have HA := Lib.hid (A0.of b9 A0.lt)
  clear A0 b9 hB
  have c2 := HA.out.cell 2 rfl
  have c3 := HA.out.cell 3 rfl
  go_wp2
  clear c2 c3
  go_loopw [22] (fun i wr => ∃ k : Nat, k ≤ m ∧ i = .int .i64 k ∧ Below w.heap.size w wr ∧ Blk wr w.heap.size [.int .i64 r.turner.letters, .int .i64 r.turner.start, .slice a m cap, .slice b m bcap] 30 ∧ Hid (∀ i, i < k → orowOk (r.out[i]?.getD default) (r.turner.moves[i]?.getD default).length = true)) (fun i _ => m - (intOf i).toNat)
  case atStart => exact ⟨0, by omega, rfl, HB.out, HA.out, Lib.hid (fun i hi => absurd hi (by omega))⟩
  case round =>
    obtain ⟨k, hk, rfl, hB, hA, HE⟩ := hrel
    by_cases hlt : k < m
    case neg =>
      obtain rfl : k = m := by omega
      have hyes : res = true := by rw [hres.out]; exact range_all (fun i hi => HE.out i hi)
      go_wp2
      go_ret
      exact ⟨by rw [hyes]; rfl, hB⟩
    obtain ⟨p, o, vk, rfl, -, hc, hr⟩ := A4.out k hlt
    obtain ⟨p2, o2, vk2, rfl, -, hc2, hr2⟩ := B4.out k hlt
    have g1 := (hB.cell (World.block_lt_of_cell? w _ hc)).trans hc
    have g2 := (hB.cell (World.block_lt_of_cell? w _ hc2)).trans hc2
    have R2 := Lib.hid (strsE.rd_of (hB.mono hB0) hr2)
    obtain ⟨sa, sc, rfl, s1, s2, -, -⟩ := rd_movesE hr
    obtain ⟨ta, tc, rfl, t1, t2, -, -⟩ := rd_strs hr2
    clear hc hc2 hr hr2
    obtain ⟨x, hx⟩ : ∃ x, x = (r.turner.moves[k]?.getD default).length := ⟨_, rfl⟩
    obtain ⟨row, hrow⟩ : ∃ x, x = r.out[k]?.getD default := ⟨_, rfl⟩
    rw [← hx] at g1 s1
    rw [← hrow] at R2 g2 t1
    have HX := Lib.hid hx; clear hx
    have HROW := Lib.hid hrow; clear hrow
    have c2 := hA.cell 2 rfl
    have HA' := Lib.hid hA; have la := hA.lt; clear hA
    have HBr := Lib.hid hB; clear hB
    obtain ⟨y, hy⟩ : ∃ x, x = row.length := ⟨_, rfl⟩
    rw [← hy] at R2 g2 t1
    have HY := Lib.hid hy; clear hy
    by_cases hlen : y = x
    case neg =>
      have hb2 : ((y : Int) != (x : Int)) = true := by simp; omega
      have hno : Hid (res = false) := Lib.hid (by rw [hres.out]; exact range_not hlt (by unfold orowOk; rw [← HROW.out, ← HX.out, decide_eq_false (by rw [← HY.out]; exact hlen)]; rfl))
      clear hlen
      go_wp2
      go_ret
      exact ⟨by rw [hno.out]; rfl, HBr.out⟩
    subst hlen
    have hb2 : ((y : Int) != (y : Int)) = false := by simp
    cases hok : row.all outOk
    · have HOK : Hid ((row.any fun t => !outOk t) = true) := Lib.hid (by rw [any_out, hok]; rfl)
      have hno : Hid (res = false) := Lib.hid (by rw [hres.out]; exact range_not hlt (by unfold orowOk; rw [← HROW.out, hok, Bool.and_false]))
      clear hok
      go_wp2_with fail
      refine (containsOut_is true _ row B _ (Nat.le_trans hB0 HBr.out.size) R2.out HOK.out).mono ?_
      rintro e w5 ⟨rfl, b5⟩
      go_wp2
      go_ret
      exact ⟨by rw [hno.out]; rfl, HBr.out.trans (b5.mono HBr.out.size)⟩
    · have HOK : Hid ((row.any fun t => !outOk t) = false) := Lib.hid (by rw [any_out, hok]; rfl)
      have hyes : Hid (orowOk (r.out[k]?.getD default) (r.turner.moves[k]?.getD default).length = true) := Lib.hid (by unfold orowOk; rw [← HROW.out, ← HX.out, hok, decide_eq_true HY.out.symm]; rfl)
      clear hok
      go_wp2_with fail
      refine (containsOut_is false _ row B _ (Nat.le_trans hB0 HBr.out.size) R2.out HOK.out).mono ?_
      rintro e w5 ⟨rfl, b5⟩
      go_wp2
      go_roundw
      case rel => exact ⟨k + 1, by omega, by go_num, HBr.out.trans (b5.mono HBr.out.size), HA'.out.of b5 la, Lib.hid (fun i hi => by by_cases h : i = k; (subst h; exact hyes.out); exact HE.out i (by omega))⟩
      case measure => simp [intOf]; omega

end Go.Proofs.YtjochoghmpcgdaaDoor

/-
  What right turners and writers hold (written by a program of this claim's own, gen_text.py).
-/
namespace Go.Proofs.YtjochoghmpcgdaaDoor
open Go.RowKit

/-- What a right move holds. -/
def mvOk (m : Move) : Prop := m.to = -1 ∨ m.to = -2 ∨ ((0 ≤ m.to ∧ m.to ≤ 99) ∧ (-1 ≤ m.dir ∧ m.dir ≤ 1))

theorem mvOk_of {m : Move} {n l k : Int} (h : moveOk m n l k = true) (hn : n ≤ 99) : mvOk m := by
  unfold moveOk at h
  rw [Bool.or_eq_true] at h
  rcases h with h | h
  · unfold isStopB at h
    rw [Bool.and_eq_true, Bool.or_eq_true, beq_iff_eq, beq_iff_eq] at h
    rcases h.1 with h | h
    · exact .inl h
    · exact .inr (.inl h)
  · rw [Bool.and_eq_true, Bool.and_eq_true, Bool.and_eq_true] at h
    have h1 := within_true.1 h.1.1.1
    have h2 := within_true.1 h.1.1.2
    exact .inr (.inr ⟨⟨by omega, by omega⟩, h2⟩)

structure TurnOk (t : Turner) : Prop where
  l1 : 1 ≤ t.letters
  l3 : t.letters ≤ 3
  n1 : 1 ≤ t.moves.length
  n12 : t.moves.length ≤ 12
  s0 : 0 ≤ t.start
  s1 : t.start < t.moves.length
  row : ∀ x, x ∈ t.moves → (x.length : Int) = t.letters + 2 ∧ ∀ k, k < x.length → moveOk (x[k]?.getD default) t.moves.length t.letters k = true

theorem turnOk_of {t : Turner} (h : validTurn t = true) : TurnOk t := by
  unfold validTurn at h
  rw [Bool.and_eq_true, Bool.and_eq_true, Bool.and_eq_true] at h
  have h1 := within_true.1 h.1
  have h2 := within_true.1 h.2.1
  have h3 := within_true.1 h.2.2.1
  refine ⟨h1.1, h1.2, by omega, by omega, h3.1, by omega, fun x hx => ?_⟩
  have h4 := List.all_eq_true.1 h.2.2.2 x hx
  unfold mrowOk at h4
  rw [Bool.and_eq_true, decide_eq_true_eq] at h4
  exact ⟨h4.1, fun k hk => List.all_eq_true.1 h4.2 k (List.mem_range.2 hk)⟩

theorem TurnOk.len {t : Turner} (K : TurnOk t) {x : List Move} (hx : x ∈ t.moves) : x.length ≤ 5 := by
  have := (K.row x hx).1; have := K.l3; omega

theorem TurnOk.mv {t : Turner} (K : TurnOk t) {x : List Move} (hx : x ∈ t.moves) {k : Nat} (hk : k < x.length) : mvOk (x[k]?.getD default) :=
  mvOk_of ((K.row x hx).2 k hk) (by have := K.n12; omega)

theorem mem_getD {α : Type} [Inhabited α] {l : List α} {k : Nat} (h : k < l.length) : l[k]?.getD default ∈ l := by
  rw [List.getElem?_eq_getElem h]; exact List.getElem_mem h

theorem getD_of_mem {α : Type} [Inhabited α] {l : List α} {x : α} (h : x ∈ l) : ∃ k, k < l.length ∧ l[k]?.getD default = x := by
  obtain ⟨k, hk, he⟩ := List.getElem_of_mem h
  exact ⟨k, hk, by rw [List.getElem?_eq_getElem hk]; exact he⟩

structure WritOk (r : Writer) : Prop where
  t : TurnOk r.turner
  v : validTurn r.turner = true
  n : r.out.length = r.turner.moves.length
  row : ∀ s, s < r.out.length → (r.out[s]?.getD default).length = (r.turner.moves[s]?.getD default).length ∧ ∀ x, x ∈ r.out[s]?.getD default → outOk x = true

theorem writOk_of {r : Writer} (h : writerOk r = true) : WritOk r := by
  unfold writerOk at h
  rw [Bool.and_eq_true, Bool.and_eq_true, decide_eq_true_eq] at h
  refine ⟨turnOk_of h.1, h.1, h.2.1, fun s hs => ?_⟩
  have h4 := List.all_eq_true.1 h.2.2 s (List.mem_range.2 (by omega))
  unfold orowOk at h4
  rw [Bool.and_eq_true, decide_eq_true_eq] at h4
  exact ⟨h4.1, fun x hx => List.all_eq_true.1 h4.2 x hx⟩

theorem out_size {x : ByteArray} (h : outOk x = true) : x.size ≤ 3 := by
  unfold outOk at h
  rw [Bool.and_eq_true, decide_eq_true_eq] at h
  exact h.1

theorem WritOk.len {r : Writer} (K : WritOk r) {x : List ByteArray} (hx : x ∈ r.out) : x.length ≤ 5 := by
  obtain ⟨s, hs, rfl⟩ := getD_of_mem hx
  rw [(K.row s hs).1]
  exact K.t.len (mem_getD (by rw [← K.n]; exact hs))

theorem WritOk.sz {r : Writer} (K : WritOk r) {x : List ByteArray} (hx : x ∈ r.out) {y : ByteArray} (hy : y ∈ x) : y.size ≤ 3 := by
  obtain ⟨s, hs, rfl⟩ := getD_of_mem hx
  exact out_size ((K.row s hs).2 y hy)

end Go.Proofs.YtjochoghmpcgdaaDoor

/-
  Runs of a turner, what a writer writes on a word, and all words in order, in plain words.
-/
namespace Go.Proofs.YtjochoghmpcgdaaDoor
open Go.RowKit

abbrev Pl := Nat × Nat

/-- The index of the letter or mark in a cell. -/
def belowN (c : Nat) (x : List UInt8) (at_ : Nat) : Nat := if at_ = 0 then c else if x.length < at_ then c + 1 else (x[at_ - 1]?.getD 97).toNat - 97
def moveAt (t : Turner) (x : List UInt8) (p : Pl) : Move := (t.moves[p.1]?.getD default)[belowN t.letters.toNat x p.2]?.getD default
def runGo (t : Turner) (x : List UInt8) : Nat → List Pl → Pl → List Pl × Int
  | 0, out, _ => (out, 3)
  | f + 1, out, p => if out.contains p then (out, 3) else
      if (moveAt t x p).to < 0 then (out ++ [p], if (moveAt t x p).to = -1 then 1 else 2)
      else runGo t x f (out ++ [p]) ((moveAt t x p).to.toNat, (p.2 + (moveAt t x p).dir).toNat)
def placesN (t : Turner) (x : List UInt8) : Nat := t.moves.length * (x.length + 2)
def runT (t : Turner) (x : List UInt8) : List Pl × Int := runGo t x (placesN t x + 1) [] (t.start.toNat, 0)

def wordOk (c : Nat) (x : List UInt8) : Prop := ∀ b, b ∈ x → 97 ≤ b.toNat ∧ b.toNat < 97 + c

/-- Places of a word, each once. -/
structure InvR (n m : Nat) (out : List Pl) : Prop where
  lt : ∀ p, p ∈ out → p.1 < n ∧ p.2 < m
  nd : out.Nodup

theorem nodup_leR : ∀ (N : Nat) (l : List Nat), l.Nodup → (∀ x, x ∈ l → x < N) → l.length ≤ N
  | 0, [], _, _ => Nat.le_refl _
  | 0, a :: l, _, h => absurd (h a (by simp)) (by omega)
  | N + 1, l, nd, h => by
    by_cases hm : N ∈ l
    · have h1 := nodup_leR N (l.erase N) (nd.erase N) (fun x hx => by
        have h2 := (nd.mem_erase_iff).1 hx
        have h3 := h x h2.2
        have h4 := h2.1
        omega)
      rw [List.length_erase_of_mem hm] at h1
      omega
    · have h1 := nodup_leR N l nd (fun x hx => by
        have h2 := h x hx
        have h3 : x ≠ N := fun e => hm (e ▸ hx)
        omega)
      omega

theorem InvR.len {n m : Nat} {out : List Pl} (h : InvR n m out) : out.length ≤ n * m := by
  have h1 := nodup_leR (n * m) (out.map fun x => x.1 * m + x.2) ?_ ?_
  · rwa [List.length_map] at h1
  · unfold List.Nodup
    rw [List.pairwise_map]
    refine (List.pairwise_iff_forall_sublist.2 ?_)
    intro x y hs
    have hne := List.pairwise_iff_forall_sublist.1 h.nd hs
    have hx := h.lt x (hs.subset (by simp))
    have hy := h.lt y (hs.subset (by simp))
    intro e
    apply hne
    have hn : 0 < m := by omega
    have e1 : (x.1 * m + x.2) / m = (y.1 * m + y.2) / m := by rw [e]
    have e2 : (x.1 * m + x.2) % m = (y.1 * m + y.2) % m := by rw [e]
    rw [Nat.mul_comm, Nat.mul_add_div hn, Nat.mul_comm, Nat.mul_add_div hn, Nat.div_eq_of_lt hx.2, Nat.div_eq_of_lt hy.2] at e1
    rw [Nat.mul_comm, Nat.mul_add_mod, Nat.mul_comm, Nat.mul_add_mod, Nat.mod_eq_of_lt hx.2, Nat.mod_eq_of_lt hy.2] at e2
    exact Prod.ext (by omega) e2
  · intro x hx
    obtain ⟨y, hy, rfl⟩ := List.mem_map.1 hx
    have h1 := h.lt y hy
    have h2 : y.1 * m + m ≤ n * m := by
      have := Nat.mul_le_mul_right m (show y.1 + 1 ≤ n by omega)
      rw [Nat.add_mul] at this
      omega
    omega

theorem InvR.snoc {n m : Nat} {out : List Pl} (h : InvR n m out) {p : Pl} (hp : p.1 < n ∧ p.2 < m) (hc : out.contains p = false) : InvR n m (out ++ [p]) := by
  have hm : p ∉ out := by simpa using hc
  refine ⟨fun q hq => ?_, ?_⟩
  · rcases List.mem_append.1 hq with hq | hq
    · exact h.lt q hq
    · rw [List.mem_singleton.1 hq]; exact hp
  · rw [List.nodup_append]
    exact ⟨h.nd, by simp, fun a ha b hb => by rw [List.mem_singleton.1 hb]; exact fun e => hm (e ▸ ha)⟩

theorem belowN_lt {c : Nat} {x : List UInt8} (hx : wordOk c x) (a : Nat) : belowN c x a < c + 2 := by
  unfold belowN
  split
  · omega
  · split
    · omega
    · have h : a - 1 < x.length := by omega
      have := hx _ (List.getElem_mem h)
      rw [List.getElem?_eq_getElem h, Option.getD_some]
      omega

/-- Where a move that does not stop leads. -/
theorem move_next {t : Turner} (K : TurnOk t) {x : List UInt8} (hx : wordOk t.letters.toNat x) {p : Pl} (hp : p.1 < t.moves.length ∧ p.2 < x.length + 2) (hm : ¬ (moveAt t x p).to < 0) :
    ((moveAt t x p).to.toNat < t.moves.length ∧ ((p.2 : Int) + (moveAt t x p).dir).toNat < x.length + 2) ∧ 0 ≤ (p.2 : Int) + (moveAt t x p).dir := by
  have hmem : t.moves[p.1]?.getD default ∈ t.moves := by rw [List.getElem?_eq_getElem hp.1]; exact List.getElem_mem _
  obtain ⟨h1, h2⟩ := K.row _ hmem
  have hb := belowN_lt hx p.2
  have h3 := h2 (belowN t.letters.toNat x p.2) (by have := K.l1; omega)
  have e : moveAt t x p = (t.moves[p.1]?.getD default)[belowN t.letters.toNat x p.2]?.getD default := rfl
  rw [← e] at h3
  unfold moveOk at h3
  rw [Bool.or_eq_true] at h3
  rcases h3 with h3 | h3
  · unfold isStopB at h3
    rw [Bool.and_eq_true, Bool.or_eq_true, beq_iff_eq, beq_iff_eq] at h3
    rcases h3.1 with h4 | h4 <;> omega
  · simp only [Bool.and_eq_true, Bool.not_eq_true', Bool.and_eq_false_iff, beq_eq_false_iff_ne] at h3
    obtain ⟨⟨⟨h4, h5⟩, h6⟩, h7⟩ := h3
    have h4 := within_true.1 h4
    have h5 := within_true.1 h5
    have l1 := K.l1
    unfold belowN at h6 h7
    by_cases ha : p.2 = 0
    · simp only [if_pos ha] at h6 h7
      have h8 : (moveAt t x p).dir ≠ -1 := by rcases h6 with h | h <;> omega
      omega
    · simp only [if_neg ha] at h6 h7
      by_cases hb : x.length < p.2
      · simp only [if_pos hb] at h6 h7
        have h8 : (moveAt t x p).dir ≠ 1 := by rcases h7 with h | h <;> omega
        omega
      · omega

/-- A stop takes or refuses. -/
theorem move_stop {t : Turner} (K : TurnOk t) {x : List UInt8} (hx : wordOk t.letters.toNat x) {p : Pl} (hp : p.1 < t.moves.length) (hm : (moveAt t x p).to < 0) : (moveAt t x p).to = -1 ∨ (moveAt t x p).to = -2 := by
  have hmem : t.moves[p.1]?.getD default ∈ t.moves := by rw [List.getElem?_eq_getElem hp]; exact List.getElem_mem _
  obtain ⟨h1, h2⟩ := K.row _ hmem
  have hb := belowN_lt hx p.2
  have h3 := h2 (belowN t.letters.toNat x p.2) (by have := K.l1; omega)
  have e : moveAt t x p = (t.moves[p.1]?.getD default)[belowN t.letters.toNat x p.2]?.getD default := rfl
  rw [← e] at h3
  unfold moveOk at h3
  rw [Bool.or_eq_true] at h3
  rcases h3 with h3 | h3
  · unfold isStopB at h3
    rw [Bool.and_eq_true, Bool.or_eq_true, beq_iff_eq, beq_iff_eq] at h3
    exact h3.1
  · simp only [Bool.and_eq_true] at h3
    have h4 := within_true.1 h3.1.1.1
    omega

/-- What is written at a place. -/
def outAt (w : Writer) (x : List UInt8) (p : Pl) : ByteArray := (w.out[p.1]?.getD default)[belowN w.turner.letters.toNat x p.2]?.getD ByteArray.empty
def textOf (w : Writer) (x : List UInt8) (run : List Pl) : ByteArray := run.foldl (fun b p => b ++ outAt w x p) ⟨#[]⟩
/-- What a writer writes on a word, and the code. -/
def writtenT (w : Writer) (x : List UInt8) : ByteArray × Int :=
  if (runT w.turner x).2 = 1 then (if 2000 < (textOf w x (runT w.turner x).1).size then (⟨#[]⟩, 3) else (textOf w x (runT w.turner x).1, 0)) else (⟨#[]⟩, 4)

/-- All words of a length, in order. -/
def wordsN (c : Nat) : Nat → List (List UInt8)
  | 0 => [[]]
  | n + 1 => (wordsN c n).flatMap fun w => (List.range c).map fun a => w ++ [UInt8.ofNat (97 + a)]

end Go.Proofs.YtjochoghmpcgdaaDoor

/-
  Plain lemmas: append of a whole slice of one's own; blocks of several cells an element; copy of such blocks. No program function is named here.
-/
namespace Go.Proofs.YtjochoghmpcgdaaDoor
open Go.RowKit

theorem srcS_own {α : Type} {E : Enc α} {ty : TypeId} {w : World} {v : Value} {l : List α} {f : List Nat} (h1 : ∀ w x cs f, E.ow w cs x f → ∀ u, u ∈ cs → u.oneCell' = true) (o : (sliceE E ty).ow w [v] l f) :
    ∃ css fys, OwAll E w l css fys ∧ SrcS w E.size v l.length css.flatten ∧ f = v.ownBlock.toList ++ fys.flatten := by
  obtain ⟨v', xss, fps, hv, a1, a2, rfl⟩ := o
  obtain rfl : v = v' := by simpa using hv
  have hone : ∀ u, u ∈ xss.flatten → u.oneCell' = true := by
    clear a2 hv
    induction a1 with
    | nil => intro u hu; simp at hu
    | cons b1 b2 ih =>
      intro u hu
      rw [List.flatten_cons] at hu
      rcases List.mem_append.1 hu with h | h
      · exact h1 _ _ _ _ b1 u h
      · exact ih u h
  refine ⟨xss, fps, a1, ?_, rfl⟩
  have hfl := a1.flat
  obtain ⟨-, a2⟩ := a2
  rcases a2 with ⟨rfl, hn⟩ | ⟨g, cap, cur, rfl, hg, hh, hc, hm, hs, ht⟩
  · refine .inl ⟨0, rfl, hn, ?_⟩
    rw [hn, Nat.zero_mul] at hfl
    exact List.eq_nil_of_length_eq_zero hfl
  · refine .inr ⟨⟨g, 0, none⟩, cap, rfl, hfl, fun j u hu => ?_, hone⟩
    rw [← ht, List.getElem?_take] at hu
    split at hu
    · rw [Addr.add_lit]
      simpa [World.cell?, hh] using hu
    · cases hu

theorem one_ints_ow : ∀ (w : World) (x : List Int) (cs : List Value) (f : List Nat), intsE.ow w cs x f → ∀ u, u ∈ cs → u.oneCell' = true := by
  intro w x cs f h u hu
  obtain ⟨v, rfl⟩ := one_of (Enc.rd_len _ (Enc.rd_ow _ h))
  obtain ⟨sa, sn, sc, rfl⟩ := ow_slice h
  have : u = .slice sa sn sc := by simpa using hu
  subst this; rfl

theorem flatMap_len' {α : Type} (c : α → List Value) (s : Nat) (l : List α) (hc : ∀ x, x ∈ l → (c x).length = s) : (l.flatMap c).length = l.length * s := by
  induction l with
  | nil => simp
  | cons a l ih => rw [List.flatMap_cons, List.length_append, ih (fun x hx => hc x (by simp [hx])), hc a (by simp), List.length_cons, Nat.succ_mul]; omega

section
variable {w0 w w' : World} {ps : List Ob}
/-- A block that a copy has written into. -/
theorem Star.row {b : Nat} {cs : List Value} {ty : TypeId} (S : Star w0 w (oB b cs ty :: ps)) (cs' : List Value) : Star w0 (w.setRow b cs'.toArray) (oB b cs' ty :: ps) :=
  S.upd fun f hf _ hl => by
    obtain ⟨hb, rfl⟩ := hf
    refine ⟨[b], ⟨setRow_heap w b _ _ ty _ hb, rfl⟩, by simp, fun b hb => .inl hb, fun b hb => by simpa [World.setRow] using hl b hb, ⟨rfl, rfl, rfl, by simp [World.setRow], fun k hk hn => ?_⟩⟩
    exact setRow_other w b k cs'.toArray (fun e => hn (by simp [e]))

/-- A slice of one element that has just been made itself. -/
theorem Star.lit1 {α : Type} {E : Enc α} {ty : TypeId} {g : Nat} {v : Value} {y : α} (S : Star w0 w (oB g [v] ty :: oE E [v] y :: ps)) (hE : E.size = 1) : Star w0 w (oE (sliceE E ty) [.slice (some ⟨g, 0, none⟩) 1 1] [y] :: ps) :=
  S.join fun f h hf hh => by
    obtain ⟨hb, rfl⟩ := hf
    refine ⟨_, [[v]], [h], rfl, OwAll.one hh, ?_, by simp [Value.ownBlock]⟩
    exact ⟨by simp [hE], .inr ⟨g, 1, #[v], rfl, Nat.zero_le _, hb, by simp, by simp [maxLen], by simp [hE], by simp [hE]⟩⟩

theorem Star.slcN (S : Star w0 w ps) (n : Nat) {α : Type} {E : Enc α} {t : TypeId} {v : Value} {a : List α} (h : ps[n]? = some (oE (sliceE E t) [v] a)) : ∃ sa sc, v = .slice sa a.length sc := by
  obtain ⟨f, o⟩ := S.own n h
  obtain ⟨sa, sc, hv, -⟩ := Enc.rd_ow _ o
  exact ⟨sa, sc, by simpa using hv⟩

/-- What has just been written into a block, as a slice whose elements are several cells. -/
theorem Star.lits {α : Type} {E : Enc α} {ty : TypeId} {g : Nat} {vs : List Value} (S : Star w0 w (oB g vs ty :: ps)) (l : List α) (c : α → List Value) (n : Nat) (hn : l.length = n) (hv : vs = l.flatMap c) (hf : ∀ x, x ∈ l → E.ow w (c x) x []) (hl : n ≤ maxLen) :
    Star w0 w (oE (sliceE E ty) [.slice (some ⟨g, 0, none⟩) n n] l :: ps) :=
  S.upd fun q hq _ hlt => by
    subst hn hv
    obtain ⟨hb, rfl⟩ := hq
    have key := flatMap_len' c E.size l (fun x hx => Enc.rd_len _ (Enc.rd_ow _ (hf x hx)))
    refine ⟨[g], ?_, by simp, fun b hb => .inl hb, hlt, But.refl _ _⟩
    exact ow_flats (base := 0) c hf ⟨by rw [key], .inr ⟨g, l.length, (l.flatMap c).toArray, rfl, Nat.zero_le _, hb, Nat.le_refl _, hl, by simp [key], by rw [List.take_of_length_le] <;> simp [key]⟩⟩
end

theorem run_copy_wide {P : Program} (w : World) (dT sT ty elem : TypeId) (g o dLen dCap : Nat) (a : Addr) (sLen sCap size : Nat) (cur : Array Value) (t : TypeId) (cs : List Value)
    (hu : P.underlying dT = some (.slice elem)) (hs : (P.info? elem).map (·.size) = some size)
    (hg : w.heap[g]? = some (.cells cur t (0, 0))) (hn : cs.length = Nat.min sLen dLen * size)
    (hsrc : ∀ j v, cs[j]? = some v → w.cell? (a.add j) = some v) (hfit : o + cs.length ≤ cur.size) (h1 : ∀ v ∈ cs, v.oneCell' = true) :
    (Builtin.copy_ #[dT, sT] ty #[.slice (some ⟨g, o, none⟩) dLen dCap, .slice (some a) sLen sCap]).run P w =
      .ok (goInt (Nat.min sLen dLen)) (w.setRow g (cur.toList.take o ++ cs ++ cur.toList.drop (o + cs.length)).toArray) := by
  have hl := run_loadCells_list (P := P) w a cs hsrc
  have hst := run_storeCells_at P g o t cs 0 cur w hg (by simpa using hfit) h1
  cases hq : P.info? elem with
  | none => simp [hq] at hs
  | some i =>
    have hi : i.size = size := by simpa [hq] using hs
    simp [Builtin.copy_, run_underlying hu, Builtin.lenOf, Builtin.firstCells, sizeOf, typeInfo, hq, hi, ← hn, hl, hst]

theorem wpList_copy_wide {P : Program} {w : World} {ops : Array Oper} {rest : List Oper} {o : Oper} {a : Act} {Q : Exit → Act → World → Prop} (hgd : o.guard = none) (d s : Operand) (dT sT : TypeId)
    (ho : o.op = .call { callee := .builtin .copy, args := #[d, s], argTypes := #[dT, sT] }) (elem : TypeId) (size : Nat) (hu : P.underlying dT = some (.slice elem)) (hsz : (P.info? elem).map (·.size) = some size)
    (g off dLen dCap : Nat) (ad : Addr) (sLen sCap : Nat) (hd : a.eval d = .slice (some ⟨g, off, none⟩) dLen dCap) (hs : a.eval s = .slice (some ad) sLen sCap)
    (cur : List Value) (t : TypeId) (hg : Blk w g cur t) (cs : List Value) (m : Nat) (hm : m = Nat.min sLen dLen) (hn : cs.length = m * size)
    (hsrc : ∀ j v, cs[j]? = some v → w.cell? (ad.add j) = some v) (hfit : off + cs.length ≤ cur.length) (h1 : ∀ v ∈ cs, v.oneCell' = true) (new : List Value) (hnew : cur.take off ++ cs ++ cur.drop (off + cs.length) = new) (B : Nat) (w0 : World) (hb : Below B w0 w) (hBg : B ≤ g)
    (h : ∀ w', Hid (Blk w' g new t) → Below B w0 w' → wpList P ops Q rest (a.put o.dst (.int .i64 (m : Int))) w') : wpList P ops Q (o :: rest) a w := by
  subst hm hnew
  refine wpList_plain hgd fun K hK => ?_
  have hrun := run_copy_wide (P := P) w dT sT o.type elem g off dLen dCap ad sLen sCap size cur.toArray t cs hu hsz hg hn hsrc (by simpa using hfit) h1
  have h := h _ (show _ = _ from setRow_heap w g _ (cur.take off ++ cs ++ cur.drop (off + cs.length)).toArray t _ hg) (below_setRow hb hBg _)
  unfold Oper.wp
  simp [execOp, ho, resolve, invoke, builtin, hd, hs, hrun, Result.andThen]
  simp only [List.append_assoc] at h
  exact hK _ _ h

theorem step_copy_wide {P : Program} {ops : Array Oper} {o : Oper} {a : Act} {w : World} {K : Act → World → Prop} {Q : Exit → Act → World → Prop} {E : Prop} (hgd : o.guard = none) (d s : Operand) (dT sT : TypeId)
    (ho : o.op = .call { callee := .builtin .copy, args := #[d, s], argTypes := #[dT, sT] }) (elem : TypeId) (size : Nat) (hu : P.underlying dT = some (.slice elem)) (hsz : (P.info? elem).map (·.size) = some size)
    (g off dLen dCap : Nat) (ad : Addr) (sLen sCap : Nat) (hd : a.eval d = .slice (some ⟨g, off, none⟩) dLen dCap) (hs : a.eval s = .slice (some ad) sLen sCap)
    (cur : List Value) (t : TypeId) (hg : Blk w g cur t) (cs : List Value) (m : Nat) (hm : m = Nat.min sLen dLen) (hn : cs.length = m * size)
    (hsrc : ∀ j v, cs[j]? = some v → w.cell? (ad.add j) = some v) (hfit : off + cs.length ≤ cur.length) (h1 : ∀ v ∈ cs, v.oneCell' = true) (new : List Value) (hnew : cur.take off ++ cs ++ cur.drop (off + cs.length) = new) (B : Nat) (w0 : World) (hb : Below B w0 w) (hBg : B ≤ g)
    (h : ∀ w', Hid (Blk w' g new t) → Below B w0 w' → K (a.put o.dst (.int .i64 (m : Int))) w') :
    if Region.wanted o (yielded ops a.tmps) = true then Oper.wp P o a w K Q else E := by
  have hw : Region.wanted o (yielded ops a.tmps) = true := by simp [Region.wanted, hgd]
  rw [if_pos hw]
  subst hm hnew
  have hrun := run_copy_wide (P := P) w dT sT o.type elem g off dLen dCap ad sLen sCap size cur.toArray t cs hu hsz hg hn hsrc (by simpa using hfit) h1
  have h := h _ (show _ = _ from setRow_heap w g _ (cur.take off ++ cs ++ cur.drop (off + cs.length)).toArray t _ hg) (below_setRow hb hBg _)
  unfold Oper.wp
  simp [execOp, ho, resolve, invoke, builtin, hd, hs, hrun, Result.andThen]
  simp only [List.append_assoc] at h
  exact h

theorem src_cells {w : World} {b c m size : Nat} {news : List Value} (hl : news.length = m * size) (hc : ∀ j u, news[j]? = some u → w.cell? ⟨b, j, none⟩ = some u) (h1 : ∀ u, u ∈ news → u.oneCell' = true) : SrcS w size (.slice (some ⟨b, 0, none⟩) m c) m news :=
  .inr ⟨⟨b, 0, none⟩, c, rfl, hl, fun j u hu => by rw [Addr.add_lit]; simpa using hc j u hu, h1⟩

theorem one_ints (l : List Int) : ∀ u, u ∈ l.map (Value.int .i64) → u.oneCell' = true := by
  intro u hu
  obtain ⟨x, _, rfl⟩ := List.mem_map.1 hu
  rfl

theorem all2 {α : Type} {E : Enc α} {w : World} {x y : α} {cx cy : List Value} (h : E.ow w cx x []) (k : E.ow w cy y []) : OwAll E w [x, y] [cx, cy] [[], []] := .cons h (.cons k .nil)

theorem below_cell_alloc (w : World) (o : Obj) {a : Addr} (h : a.block < w.heap.size) : (w.alloc o).cell? a = w.cell? a := ((Below.refl w.heap.size w).alloc (Nat.le_refl _) o).cell h

theorem cell_al {w : World} {a : Addr} {v : Value} (h : w.cell? a = some v) (o : Obj) : (w.alloc o).cell? a = some v := by rw [below_cell_alloc w o (World.block_lt_of_cell? w _ h)]; exact h

theorem Star.drew {w0 w : World} {ps : List Ob} (S : Star w0 w ps) : Star w0 w.drew ps := S.step (Below.refl _ _).drew

end Go.Proofs.YtjochoghmpcgdaaDoor

/-
  Plain lemmas: an element of a slice of one's own is written anew.
-/
namespace Go.Proofs.YtjochoghmpcgdaaDoor
open Go.RowKit

theorem OwAll.set {α : Type} {E : Enc α} {w : World} {l : List α} {xss : List (List Value)} {fps : List (List Nat)} (h : OwAll E w l xss fps) {u : List Value} {y : α} {g : List Nat} (hy : E.ow w u y g) (i : Nat) :
    OwAll E w (l.set i y) (xss.set i u) (fps.set i g) := by
  induction h generalizing i with
  | nil => exact .nil
  | cons h1 h2 ih =>
    cases i with
    | zero => exact .cons hy h2
    | succ i => exact .cons h1 (ih i)

theorem OwAll.ones {α : Type} {E : Enc α} {w : World} {l : List α} {xss : List (List Value)} {fps : List (List Nat)} (h : OwAll E w l xss fps) (hE : E.size = 1) : ∀ x, x ∈ xss → x.length = 1 := by
  induction h with
  | nil => intro x hx; cases hx
  | cons h1 h2 ih =>
    intro x hx
    rcases List.mem_cons.1 hx with rfl | hx
    · rw [← hE]; exact E.rd_len (E.rd_ow h1)
    · exact ih x hx

theorem flatten_set1 {v : Value} : ∀ (xss : List (List Value)) (i : Nat), (∀ x, x ∈ xss → x.length = 1) → (xss.set i [v]).flatten = xss.flatten.set i v
  | [], i, _ => by simp
  | x :: xss, i, h => by
    obtain ⟨a, rfl⟩ := List.length_eq_one_iff.1 (h x (by simp))
    cases i with
    | zero => simp
    | succ i =>
      have := flatten_set1 (v := v) xss i (fun y hy => h y (by simp [hy]))
      simp [this]

theorem nodup_flatten_set {g : List Nat} : ∀ (fps : List (List Nat)) (i : Nat) (p : List Nat), (p ++ fps.flatten ++ g).Nodup → (p ++ (fps.set i g).flatten).Nodup
  | [], i, p, h => by
    rw [List.set_nil]
    exact (List.nodup_append.1 h).1
  | f :: fps, i, p, h => by
    cases i with
    | zero =>
      have h2 : (p ++ (fps.flatten ++ g)).Nodup := by
        refine List.Nodup.sublist ?_ h
        rw [List.append_assoc, List.flatten_cons, List.append_assoc]
        exact List.Sublist.append (List.Sublist.refl p) (List.sublist_append_right f _)
      rw [List.set_cons_zero, List.flatten_cons]
      exact ((List.perm_append_comm (l₁ := fps.flatten) (l₂ := g)).append_left p).nodup_iff.1 h2
    | succ i =>
      have := nodup_flatten_set (g := g) fps i (p ++ f) (by simpa [List.append_assoc] using h)
      rw [List.set_cons_succ, List.flatten_cons, ← List.append_assoc]
      exact this

theorem mem_flatten_set {g : List Nat} {b : Nat} : ∀ (fps : List (List Nat)) (i : Nat), b ∈ (fps.set i g).flatten → b ∈ fps.flatten ∨ b ∈ g
  | [], i, h => by simp at h
  | f :: fps, i, h => by
    cases i with
    | zero =>
      rw [List.set_cons_zero, List.flatten_cons] at h
      rcases List.mem_append.1 h with h | h
      · exact .inr h
      · exact .inl (by rw [List.flatten_cons]; exact List.mem_append_right _ h)
    | succ i =>
      rw [List.set_cons_succ, List.flatten_cons] at h
      rcases List.mem_append.1 h with h | h
      · exact .inl (by rw [List.flatten_cons]; exact List.mem_append_left _ h)
      · rcases mem_flatten_set fps i h with h | h
        · exact .inl (by rw [List.flatten_cons]; exact List.mem_append_right _ h)
        · exact .inr h

/-- Two parts held as one. -/
def oTwo (P Q : Ob) : Ob := ⟨fun w fp => ∃ f g, fp = f ++ g ∧ P.holds w f ∧ Q.holds w g, fun hf ⟨f, g, e, h1, h2⟩ => ⟨f, g, e, P.frame (fun b hb => hf b (by rw [e]; exact List.mem_append_left _ hb)) h1, Q.frame (fun b hb => hf b (by rw [e]; exact List.mem_append_right _ hb)) h2⟩⟩

theorem Star.setE {w0 w : World} {ps : List Ob} {α : Type} {E : Enc α} {ty : TypeId} {l : List α} {y : α} {u : Value} {g n c : Nat} (hE : E.size = 1) (S : Star w0 w (oE (sliceE E ty) [.slice (some ⟨g, 0, none⟩) n c] l :: oE E [u] y :: ps)) (i : Nat) (hi : i < l.length) :
    Star w0 (w.setCell ⟨g, i, none⟩ u) (oE (sliceE E ty) [.slice (some ⟨g, 0, none⟩) n c] (l.set i y) :: ps) := by
  have S2 := S.join (R := oTwo _ _) (fun f g h1 h2 => ⟨f, g, rfl, h1, h2⟩)
  refine S2.upd ?_
  rintro fp ⟨f, gf, rfl, ⟨v, xss, fps, he, h1, h2, rfl⟩, hy⟩ nd hlt
  simp only [List.cons.injEq, and_true] at he
  subst he
  have ew : w.heap[g]? = (w.heap[g]?) := rfl
  obtain ⟨hx, h3⟩ := h2
  rcases h3 with ⟨h3, -⟩ | ⟨g', cap, cur, e3, hg, hh, hc, hm, hs, ht⟩
  · cases h3
  simp only [Value.slice.injEq, Option.some.injEq, Addr.mk.injEq, and_true] at e3
  obtain ⟨rfl, rfl, rfl⟩ := e3
  have ob : (Value.slice (some ⟨g, 0, none⟩) l.length c).ownBlock.toList = [g] := rfl
  rw [ob] at nd hlt ⊢
  have hgl : g < w.heap.size := (Array.getElem?_eq_some_iff.1 hh).1
  have hB : Blk w g cur.toList ty := by unfold Blk; rw [hh]
  have hB' := hB.set i u
  have hone := h1.ones hE
  have hgn : g ∉ fps.flatten ++ gf := by
    rw [List.append_assoc, List.singleton_append, List.nodup_cons] at nd
    exact nd.1
  have fr : ∀ b, b ∈ fps.flatten ++ gf → (w.setCell ⟨g, i, none⟩ u).heap[b]? = w.heap[b]? := fun b hb => (((But.refl [g] w).setCell (a := ⟨g, i, none⟩) (by simp) u).block b (hlt b (by rw [List.append_assoc]; exact List.mem_append_right _ hb)) (fun e => hgn (by rw [List.mem_singleton] at e; exact e ▸ hb)))
  have o1 := (h1.frame (fun b hb => fr b (List.mem_append_left _ hb))).set (E.ow_frame (fun b hb => fr b (List.mem_append_right _ hb)) hy) i
  refine ⟨[g] ++ (fps.set i gf).flatten, ⟨_, xss.set i [u], fps.set i gf, rfl, o1, ⟨?_, .inr ⟨g, c, (cur.toList.set i u).toArray, by rw [List.length_set], Nat.zero_le _, hB', by rw [List.length_set]; exact hc, hm, by simpa using hs, ?_⟩⟩, rfl⟩, ?_, ?_, ?_, ?_⟩
  · rw [flatten_set1 _ _ hone, List.length_set, List.length_set]; exact hx
  · rw [flatten_set1 _ _ hone, List.length_set, ← ht, List.take_set]
  · exact nodup_flatten_set fps i [g] nd
  · intro b hb
    left
    rcases List.mem_append.1 hb with h | h
    · exact List.mem_append_left _ (List.mem_append_left _ h)
    · rcases mem_flatten_set fps i h with h | h
      · exact List.mem_append_left _ (List.mem_append_right _ h)
      · exact List.mem_append_right _ h
  · intro b hb
    rw [show (w.setCell ⟨g, i, none⟩ u).heap.size = w.heap.size from by simp]
    rcases List.mem_append.1 hb with h | h
    · exact hlt b (List.mem_append_left _ (List.mem_append_left _ h))
    · rcases mem_flatten_set fps i h with h | h
      · exact hlt b (List.mem_append_left _ (List.mem_append_right _ h))
      · exact hlt b (List.mem_append_right _ h)
  · exact (But.refl _ _).setCell (by simp) _

/-- The block of a slice of one's own. -/
theorem Star.at0 {w0 w : World} {ps : List Ob} (S : Star w0 w ps) (n : Nat) {α : Type} {E : Enc α} {ty : TypeId} {v : Value} {l : List α} (h : ps[n]? = some (oE (sliceE E ty) [v] l)) (hl : 0 < l.length) (hE : E.size = 1) :
    ∃ g c, v = .slice (some ⟨g, 0, none⟩) l.length c ∧ w0.heap.size ≤ g ∧ (∀ i, w.frozen? ⟨g, i, none⟩ = false) ∧ l.length ≤ c ∧ c ≤ maxLen ∧ ∀ i, i < l.length → ∃ x u f, l[i]? = some x ∧ w.cell? ⟨g, i, none⟩ = some u ∧ E.ow w [u] x f := by
  obtain ⟨_, fp, hh, _⟩ := S
  obtain ⟨⟨v', xss, fps, he, h1, h2, hfp⟩, nd, hlt⟩ := hh n _ h
  simp only [List.cons.injEq, and_true] at he
  subst he
  obtain ⟨hx, h3⟩ := h2
  rcases h3 with ⟨-, h3⟩ | ⟨g, cap, cur, rfl, hg, hh2, hc, hm, hs, ht⟩
  · omega
  have hB : Blk w g cur.toList ty := by unfold Blk; rw [hh2]
  refine ⟨g, cap, rfl, (hlt g (by rw [hfp]; simp [Value.ownBlock])).1, hB.free, hc, hm, fun i hi => ?_⟩
  obtain ⟨xs, f, e1, e2, e3, e4, e5⟩ := h1.rdAt (B := w.heap.size) (h1.lt) i l[i] (List.getElem?_eq_getElem hi)
  have hone := h1.ones hE xs (List.mem_of_getElem? e1)
  obtain ⟨u, rfl⟩ := List.length_eq_one_iff.1 hone
  refine ⟨l[i], u, f, List.getElem?_eq_getElem hi, ?_, e3⟩
  have := e5 0 u rfl
  rw [hE, Nat.mul_one, Nat.add_zero, ← ht, List.getElem?_take] at this
  split at this
  · exact hB.cell i (by simpa using this)
  · cases this

theorem Star.free0 {w0 w : World} {ps : List Ob} (S : Star w0 w ps) (n : Nat) {α : Type} {E : Enc α} {ty : TypeId} {g m c : Nat} {l : List α} (h : ps[n]? = some (oE (sliceE E ty) [.slice (some ⟨g, 0, none⟩) m c] l)) (hl : 0 < l.length) (hE : E.size = 1) :
    ∀ i, w.frozen? ⟨g, i, none⟩ = false := by
  obtain ⟨g', c', e, -, fz, -⟩ := S.at0 n h hl hE
  simp only [Value.slice.injEq, Option.some.injEq, Addr.mk.injEq, and_true] at e
  obtain ⟨rfl, -⟩ := e
  exact fz

theorem sub_flatten {α : Type} : ∀ (L : List (List α)) (i : Nat) (f : List α), L[i]? = some f → f.Sublist L.flatten
  | [], i, f, h => by simp at h
  | a :: L, 0, f, h => by
    obtain rfl : a = f := by simpa using h
    rw [List.flatten_cons]
    exact List.sublist_append_left _ _
  | a :: L, i + 1, f, h => by
    rw [List.flatten_cons]
    exact (sub_flatten L i f (by simpa using h)).trans (List.sublist_append_right _ _)

/-- One element of a slice of one's own; the rest is left. -/
theorem Star.elem {w0 w : World} {ps : List Ob} {α : Type} {E : Enc α} {ty : TypeId} {l : List α} {g n c : Nat} (S : Star w0 w (oE (sliceE E ty) [.slice (some ⟨g, 0, none⟩) n c] l :: ps)) (hE : E.size = 1) (i : Nat) (x : α) (hi : l[i]? = some x) {u : Value} (hu : w.cell? ⟨g, i, none⟩ = some u) :
    Star w0 w (oE E [u] x :: ps) := by
  refine S.upd ?_
  rintro fp ⟨v, xss, fps, he, h1, h2, rfl⟩ nd hlt
  simp only [List.cons.injEq, and_true] at he
  subst he
  obtain ⟨hx, h3⟩ := h2
  rcases h3 with ⟨h3, -⟩ | ⟨g', cap, cur, e3, hg, hh, hc, hm, hs, ht⟩
  · cases h3
  simp only [Value.slice.injEq, Option.some.injEq, Addr.mk.injEq, and_true] at e3
  obtain ⟨rfl, rfl, rfl⟩ := e3
  have hB : Blk w g cur.toList ty := by unfold Blk; rw [hh]
  obtain ⟨xs, f, e1, e2, e3, e4, e5⟩ := h1.rdAt (B := w.heap.size) (h1.lt) i x hi
  have hone := h1.ones hE xs (List.mem_of_getElem? e1)
  obtain ⟨u', rfl⟩ := List.length_eq_one_iff.1 hone
  have hu2 : w.cell? ⟨g, i, none⟩ = some u' := by
    have := e5 0 u' rfl
    rw [hE, Nat.mul_one, Nat.add_zero, ← ht, List.getElem?_take] at this
    split at this
    · exact hB.cell i (by simpa using this)
    · cases this
  obtain rfl : u = u' := Option.some.inj (hu.symm.trans hu2)
  have hs := sub_flatten fps i f e2
  exact ⟨f, e3, (List.nodup_append.1 nd).2.1.sublist hs, fun b hb => .inl (List.mem_append_right _ (hs.subset hb)), fun b hb => hlt b (List.mem_append_right _ (hs.subset hb)), But.refl _ _⟩

end Go.Proofs.YtjochoghmpcgdaaDoor

/-
  Plain definitions: what the laws' mark.. helpers leave in a value, and what the held.. helpers look for; a value with an element exchanged. No program is named here.
-/
namespace Go.Proofs.YtjochoghmpcgdaaDoor
open Go.RowKit

/-- A value that bears marks from a number on, and how many it bears. -/
structure Mk (α : Type) where
  held : α → Int → Prop
  cnt : α → Nat

def intsM : Mk (List Int) := ⟨fun l k => ∀ i, i < l.length → l[i]?.getD 0 = k + i, List.length⟩
def boolsM : Mk (List Bool) := ⟨fun l k => ∀ i, i < l.length → l[i]?.getD false = decide ((k + i) % 3 = 0), List.length⟩
def movesM : Mk (List Move) := ⟨fun l k => ∀ i, i < l.length → l[i]?.getD default = ⟨k + 2 * i, k + 2 * i + 1⟩, fun l => 2 * l.length⟩
def pmovesM : Mk (List PMove) := ⟨fun l k => ∀ i, i < l.length → l[i]?.getD default = ⟨k + 3 * i, k + 3 * i + 1, k + 3 * i + 1 + 1⟩, fun l => 3 * l.length⟩

def heldL {α : Type} (M : Mk α) : List α → Int → Prop
  | [], _ => True
  | a :: l, k => M.held a k ∧ heldL M l (k + M.cnt a)
def cntL {α : Type} (M : Mk α) (l : List α) : Nat := (l.map M.cnt).sum
def listM {α : Type} (M : Mk α) : Mk (List α) := ⟨heldL M, cntL M⟩

theorem heldL_append {α : Type} (M : Mk α) (l : List α) (a : α) (k : Int) : heldL M (l ++ [a]) k ↔ heldL M l k ∧ M.held a (k + cntL M l) := by
  induction l generalizing k with
  | nil => simp [heldL, cntL]
  | cons b l ih =>
    simp only [List.cons_append, heldL, ih, cntL, List.map_cons, List.sum_cons, and_assoc]
    rw [show k + (M.cnt b : Int) + ((l.map M.cnt).sum : Nat) = k + ((M.cnt b + (l.map M.cnt).sum : Nat) : Int) from by omega]

theorem cntL_append {α : Type} (M : Mk α) (l l' : List α) : cntL M (l ++ l') = cntL M l + cntL M l' := by simp [cntL]

theorem cntL_take_le {α : Type} (M : Mk α) (l : List α) (k : Nat) : cntL M (l.take k) ≤ cntL M l := by
  conv => rhs; rw [← List.take_append_drop k l]
  rw [cntL_append]; omega

theorem cntL_take {α : Type} (M : Mk α) (l : List α) (k : Nat) (x : α) (h : l[k]? = some x) : cntL M (l.take (k + 1)) = cntL M (l.take k) + M.cnt x := by
  obtain ⟨hk, rfl⟩ := List.getElem?_eq_some_iff.1 h
  rw [List.take_succ_eq_append_getElem hk, cntL_append]
  simp [cntL]

theorem heldL_take {α : Type} (M : Mk α) (l : List α) (k : Nat) (j : Int) (x : α) (h : l[k]? = some x) (hh : heldL M l j) : M.held x (j + cntL M (l.take k)) := by
  induction l generalizing k j with
  | nil => simp at h
  | cons a l ih =>
    cases k with
    | zero =>
      simp only [List.getElem?_cons_zero, Option.some.injEq] at h
      subst h
      simpa [cntL] using hh.1
    | succ k =>
      have := ih k (j + M.cnt a) (by simpa using h) hh.2
      rw [List.take_succ_cons]
      have e : cntL M (a :: l.take k) = M.cnt a + cntL M (l.take k) := by simp [cntL]
      rw [e]
      rwa [show j + ((M.cnt a + cntL M (l.take k) : Nat) : Int) = j + (M.cnt a : Int) + (cntL M (l.take k) : Nat) from by omega]

/-! ### A value of its own whose one element is exchanged -/

theorem OwAll.at {α : Type} {E : Enc α} {w : World} {l : List α} {xss : List (List Value)} {fps : List (List Nat)} (h : OwAll E w l xss fps) (hn : fps.flatten.Nodup) :
    ∀ j x, l[j]? = some x → ∃ xs f, xss[j]? = some xs ∧ E.ow w xs x f ∧ f.Nodup ∧ (∀ b, b ∈ f → b ∈ fps.flatten) ∧
      ∀ (w' : World) x', But f w w' → E.ow w' xs x' f → OwAll E w' (l.set j x') xss fps := by
  induction h with
  | nil => intro j x hx; simp at hx
  | @cons a l cs xss f fps h1 h2 ih =>
    rw [List.flatten_cons, List.nodup_append] at hn
    obtain ⟨n1, n2, n3⟩ := hn
    intro j x hx
    cases j with
    | zero =>
      simp only [List.getElem?_cons_zero, Option.some.injEq] at hx
      subst hx
      refine ⟨cs, f, rfl, h1, n1, fun b hb => by simp [hb], fun w' x' hb ho => ?_⟩
      rw [List.set_cons_zero]
      refine .cons ho (h2.frame fun b hm => ?_)
      exact hb.block b (h2.lt b hm) (fun hf => n3 b hf b hm rfl)
    | succ j =>
      obtain ⟨xs, g, e1, e2, e3, e4, e5⟩ := ih n2 j x (by simpa using hx)
      refine ⟨xs, g, by simpa using e1, e2, e3, fun b hb => by rw [List.flatten_cons]; exact List.mem_append_right _ (e4 b hb), fun w' x' hb ho => ?_⟩
      rw [List.set_cons_succ]
      refine .cons (E.ow_but h1 hb (fun b hm hg => n3 b hm b (e4 b hg) rfl)) (e5 w' x' hb ho)

theorem ow_elem {α : Type} {E : Enc α} {ty : TypeId} {w : World} {v : Value} {l : List α} {fp : List Nat} (h : (sliceE E ty).ow w [v] l fp) (hn : fp.Nodup) (j : Nat) (x : α) (hx : l[j]? = some x) :
    ∃ g cap xs f, v = .slice (some ⟨g, 0, none⟩) l.length cap ∧ g < w.heap.size ∧ E.ow w xs x f ∧ f.Nodup ∧ (∀ b, b ∈ f → b ∈ fp ∧ b ≠ g) ∧ (∀ i u, xs[i]? = some u → w.cell? ⟨g, j * E.size + i, none⟩ = some u) ∧
      ∀ (w' : World) x', But f w w' → E.ow w' xs x' f → (sliceE E ty).ow w' [v] (l.set j x') fp := by
  obtain ⟨v', xss, fps, hv, h1, h2, rfl⟩ := h
  obtain rfl : v = v' := by simpa using hv
  rw [List.nodup_append] at hn
  obtain ⟨n1, n2, n3⟩ := hn
  obtain ⟨xs, f, e1, e2, e3, e4, e5⟩ := h1.at n2 j x hx
  have hj := (List.getElem?_eq_some_iff.1 hx).1
  obtain ⟨hl2, hr⟩ := h2
  rcases hr with ⟨_, h0⟩ | ⟨g, cap, cur, rfl, hg, hh, hc, hm, hs, ht⟩
  · omega
  refine ⟨g, cap, xs, f, rfl, (Array.getElem?_eq_some_iff.1 hh).1, e2, e3, fun b hb => ⟨List.mem_append_right _ (e4 b hb), fun e => n3 g (by simp [Value.ownBlock]) b (e4 b hb) e.symm⟩, fun i u hu => ?_, fun w' x' hb ho => ?_⟩
  · obtain ⟨xs', f', q1, _, _, _, q5⟩ := h1.rdAt (B := w.heap.size) h1.lt j x hx
    rw [e1] at q1
    cases q1
    have hf := q5 i u hu
    rw [← ht, List.getElem?_take] at hf
    split at hf
    · unfold World.cell?
      rw [hh]
      simpa using hf
    · cases hf
  · refine ⟨_, xss, fps, rfl, e5 w' x' hb ho, ?_, rfl⟩
    rw [List.length_set]
    refine ⟨hl2, .inr ⟨g, cap, cur, rfl, hg, ?_, hc, hm, hs, ht⟩⟩
    rw [hb.block g (Array.getElem?_eq_some_iff.1 hh).1 (fun hf => n3 g (by simp [Value.ownBlock]) g (e4 g hf) rfl)]
    exact hh

/-- What a mark.. helper does. -/
def Marks {α : Type} (E : Enc α) (M : Mk α) (cs : List Value) (a : α) (fp : List Nat) (k : Int) (w : World) (e : Ending) (w' : World) : Prop :=
  ∃ a', e = .returned (.int .i64 (k + M.cnt a)) ∧ E.ow w' cs a' fp ∧ M.held a' k ∧ M.cnt a' = M.cnt a ∧ But fp w w'

theorem marks_nil {α : Type} {E : Enc α} {M : Mk α} {cs : List Value} {a : α} {fp : List Nat} {k : Int} {w : World} (ho : E.ow w cs a fp) (hm : M.held a k) (hc : M.cnt a = 0) : Marks E M cs a fp k w (.returned (.int .i64 k)) w :=
  ⟨a, by rw [hc]; simp, ho, hm, rfl, But.refl _ _⟩

theorem ow_flat_inv {α : Type} {E : Enc α} {ty : TypeId} {w : World} {v : Value} {l : List α} {fp : List Nat} (c : α → Value) (hE : E.size = 1) (inv : ∀ w xs x f, E.ow w xs x f → xs = [c x] ∧ f = []) (h : (sliceE E ty).ow w [v] l fp) :
    fp = v.ownBlock.toList ∧ w.ownsRow 0 ty 1 v l.length (l.map c) ∧ ∀ x, x ∈ l → E.ow w [c x] x [] := by
  obtain ⟨v', xss, fps, hv, h1, h2, rfl⟩ := h
  obtain rfl : v = v' := by simpa using hv
  have key : xss.flatten = l.map c ∧ fps.flatten = [] ∧ ∀ x, x ∈ l → E.ow w [c x] x [] := by
    clear h2 hv
    induction h1 with
    | nil => exact ⟨rfl, rfl, fun x hx => by cases hx⟩
    | @cons a l cs xss f fps h1 h2 ih =>
      obtain ⟨rfl, rfl⟩ := inv _ _ _ _ h1
      obtain ⟨i1, i2, i3⟩ := ih
      refine ⟨by simp [i1], by simp [i2], fun x hx => ?_⟩
      rcases List.mem_cons.1 hx with rfl | hx
      · exact h1
      · exact i3 x hx
  obtain ⟨k1, k2, k3⟩ := key
  rw [hE, k1] at h2
  exact ⟨by rw [k2, List.append_nil], h2, k3⟩

theorem ow_flats_inv {α : Type} {E : Enc α} {ty : TypeId} {w : World} {v : Value} {l : List α} {fp : List Nat} (c : α → List Value) (inv : ∀ w xs x f, E.ow w xs x f → xs = c x ∧ f = []) (h : (sliceE E ty).ow w [v] l fp) :
    fp = v.ownBlock.toList ∧ w.ownsRow 0 ty E.size v l.length (l.flatMap c) := by
  obtain ⟨v', xss, fps, hv, h1, h2, rfl⟩ := h
  obtain rfl : v = v' := by simpa using hv
  have key : xss.flatten = l.flatMap c ∧ fps.flatten = [] := by
    clear h2 hv
    induction h1 with
    | nil => exact ⟨rfl, rfl⟩
    | @cons a l cs xss f fps h1 h2 ih =>
      obtain ⟨rfl, rfl⟩ := inv _ _ _ _ h1
      obtain ⟨i1, i2⟩ := ih
      exact ⟨by simp [i1], by simp [i2]⟩
  obtain ⟨k1, k2⟩ := key
  rw [k1] at h2
  exact ⟨by rw [k2, List.append_nil], h2⟩

theorem ret_k {a b : Int} (h : a = b) : Value.int .i64 a = Value.int .i64 b := by rw [h]

theorem ow_len {α : Type} {E : Enc α} {ty : TypeId} {w : World} {v : Value} {l : List α} {fp : List Nat} (h : (sliceE E ty).ow w [v] l fp) : l.length ≤ 9223372036854775807 := len_le ((sliceE E ty).rd_ow h)

/-- A slice of slices (or structs of one cell) of which the first j elements have been marked. -/
def MState {α : Type} (E : Enc α) (ty : TypeId) (M : Mk α) (l : List α) (fp : List Nat) (v : Value) (k0 : Int) (w wr : World) (j : Nat) : Prop :=
  ∃ l', (sliceE E ty).ow wr [v] l' fp ∧ But fp w wr ∧ heldL M (l'.take j) k0 ∧ (∀ i, j ≤ i → l'[i]? = l[i]?) ∧ l'.map M.cnt = l.map M.cnt

section
variable {α : Type} {E : Enc α} {ty : TypeId} {M : Mk α} {l : List α} {fp : List Nat} {v : Value} {k0 : Int} {w wr : World} {j : Nat}

theorem MState.start (h : (sliceE E ty).ow w [v] l fp) : MState E ty M l fp v k0 w w 0 := ⟨l, h, But.refl _ _, trivial, fun _ _ => rfl, rfl⟩

theorem cntL_take_congr {l l' : List α} (h : l'.map M.cnt = l.map M.cnt) (j : Nat) : cntL M (l'.take j) = cntL M (l.take j) := by
  unfold cntL
  rw [List.map_take, List.map_take, h]

theorem MState.elem (hE : E.size = 1) (hn : fp.Nodup) (h : MState E ty M l fp v k0 w wr j) {x : α} (hx : l[j]? = some x) :
    ∃ g cap vk f, v = .slice (some ⟨g, 0, none⟩) l.length cap ∧ wr.cell? ⟨g, j, none⟩ = some vk ∧ E.ow wr [vk] x f ∧ f.Nodup ∧
      ∀ (w' : World) x', But f wr w' → E.ow w' [vk] x' f → M.held x' (k0 + cntL M (l.take j)) → M.cnt x' = M.cnt x → MState E ty M l fp v k0 w w' (j + 1) := by
  obtain ⟨l', h1, h2, h3, h4, h5⟩ := h
  have hlen : l'.length = l.length := by have := congrArg List.length h5; simpa using this
  obtain ⟨g, cap, xs, f, e1, e2, e3, e4, e5, e6, e7⟩ := ow_elem h1 hn j x (by rw [h4 j (Nat.le_refl _)]; exact hx)
  have hl := E.rd_len (E.rd_ow e3)
  rw [hE] at hl
  match xs, hl with
  | [vk], _ =>
    rw [hlen] at e1
    refine ⟨g, cap, vk, f, e1, by have := e6 0 vk rfl; rw [hE] at this; simpa using this, e3, e4, fun w' x' hb ho hm hc => ?_⟩
    have hjl : j < l'.length := by rw [hlen]; exact (List.getElem?_eq_some_iff.1 hx).1
    refine ⟨l'.set j x', e7 w' x' hb ho, ?_, ?_, fun i hi => ?_, ?_⟩
    · exact h2.trans ⟨hb.os, hb.tape, hb.output, hb.size, fun k hk hnk => hb.block k hk (fun hf => hnk (e5 k hf).1)⟩
    · rw [List.take_succ_eq_append_getElem (by rw [List.length_set]; exact hjl), heldL_append]
      rw [List.take_set_of_le (Nat.le_refl j)]
      refine ⟨h3, ?_⟩
      rw [List.getElem_set_self, cntL_take_congr h5]
      exact hm
    · rw [List.getElem?_set_ne (by omega)]
      exact h4 i (by omega)
    · rw [List.map_set, h5, hc]
      apply List.ext_getElem?
      intro i
      by_cases e : i = j
      · subst e
        rw [List.getElem?_set_self (by simp; omega), List.getElem?_map, hx]; rfl
      · rw [List.getElem?_set_ne (fun e' => e e'.symm)]

theorem MState.done (h : MState E ty M l fp v k0 w wr l.length) : Marks (sliceE E ty) (listM M) [v] l fp k0 w (.returned (.int .i64 (k0 + cntL M l))) wr := by
  obtain ⟨l', h1, h2, h3, h4, h5⟩ := h
  have hlen : l'.length = l.length := by have := congrArg List.length h5; simpa using this
  refine ⟨l', rfl, h1, ?_, ?_, h2⟩
  · rw [← hlen, List.take_length] at h3; exact h3
  · show cntL M l' = cntL M l
    have := cntL_take_congr h5 l.length
    rwa [← hlen, List.take_length, hlen, List.take_length] at this
end

end Go.Proofs.YtjochoghmpcgdaaDoor

/-
  Two small laws for the marks of structs.
-/
namespace Go.Proofs.YtjochoghmpcgdaaDoor
open Go.RowKit

theorem But.mono {fp fq : List Nat} {w w' : World} (h : But fp w w') (hs : ∀ b, b ∈ fp → b ∈ fq) : But fq w w' :=
  ⟨h.os, h.tape, h.output, h.size, fun k hk hn => h.block k hk (fun hp => hn (hs k hp))⟩

theorem ret_k_ret {a b : Int} (h : a = b) : Ending.returned (Value.int .i64 a) = Ending.returned (Value.int .i64 b) := by rw [h]

end Go.Proofs.YtjochoghmpcgdaaDoor

/-
  Plain lemmas: an element of a row of a slice of slices of one's own is written anew. No program is named here.
-/
namespace Go.Proofs.YtjochoghmpcgdaaDoor
open Go.RowKit

theorem OwAll.flat_fp {α : Type} {E : Enc α} (hfl : ∀ w cs x f, E.ow w cs x f → f = []) {w : World} {l : List α} {xss : List (List Value)} {fps : List (List Nat)} (h : OwAll E w l xss fps) : fps.flatten = [] := by
  induction h with
  | nil => rfl
  | cons h1 h2 ih => rw [List.flatten_cons, ih, hfl _ _ _ _ h1]; rfl

theorem OwAll.sizes {α : Type} {E : Enc α} {w : World} {l : List α} {xss : List (List Value)} {fps : List (List Nat)} (h : OwAll E w l xss fps) : ∀ x, x ∈ xss → x.length = E.size := by
  induction h with
  | nil => intro x hx; cases hx
  | cons h1 h2 ih =>
    intro x hx
    rcases List.mem_cons.1 hx with rfl | hx
    · exact E.rd_len (E.rd_ow h1)
    · exact ih x hx

theorem flatten_set2 {u v : Value} : ∀ (xss : List (List Value)) (i : Nat), (∀ x, x ∈ xss → x.length = 2) → (xss.set i [u, v]).flatten = (xss.flatten.set (i * 2) u).set (i * 2 + 1) v
  | [], i, _ => by simp
  | x :: xss, i, h => by
    obtain ⟨a, b, rfl⟩ : ∃ a b, x = [a, b] := by
      have hx := h x (by simp)
      match x, hx with
      | [a, b], _ => exact ⟨a, b, rfl⟩
    cases i with
    | zero => simp
    | succ i =>
      have := flatten_set2 (u := u) (v := v) xss i (fun y hy => h y (by simp [hy]))
      rw [List.set_cons_succ, List.flatten_cons, this, show (i + 1) * 2 = i * 2 + 2 from by omega]
      simp

/-- A row of one-cell elements that own nothing. -/
theorem ow_set1 {α : Type} {E : Enc α} {ty : TypeId} {w : World} {l : List α} {g n c : Nat} {f : List Nat} (hE : E.size = 1) (hfl : ∀ w cs x f, E.ow w cs x f → f = []) (o : (sliceE E ty).ow w [.slice (some ⟨g, 0, none⟩) n c] l f) (i : Nat) {u : Value} {y : α}
    (hy : ∀ w, E.ow w [u] y []) : (sliceE E ty).ow (w.setCell ⟨g, i, none⟩ u) [.slice (some ⟨g, 0, none⟩) n c] (l.set i y) f ∧ f = [g] := by
  obtain ⟨v, xss, fps, he, h1, h2, rfl⟩ := o
  simp only [List.cons.injEq, and_true] at he
  subst he
  obtain ⟨hx, h3⟩ := h2
  rcases h3 with ⟨h3, -⟩ | ⟨g', cap, cur, e3, hg, hh, hc, hm, hs, ht⟩
  · cases h3
  simp only [Value.slice.injEq, Option.some.injEq, Addr.mk.injEq, and_true] at e3
  obtain ⟨rfl, rfl, rfl⟩ := e3
  have hf0 := h1.flat_fp hfl
  have hB : Blk w g cur.toList ty := by unfold Blk; rw [hh]
  have hB' := hB.set i u
  have hone := h1.ones hE
  have o1 := (h1.frame (w' := w.setCell ⟨g, i, none⟩ u) (fun b hb => by rw [hf0] at hb; cases hb)).set (hy _) i
  refine ⟨⟨_, xss.set i [u], fps.set i [], rfl, o1, ⟨?_, .inr ⟨g, c, (cur.toList.set i u).toArray, by rw [List.length_set], Nat.zero_le _, hB', by rw [List.length_set]; exact hc, hm, by simpa using hs, ?_⟩⟩, ?_⟩, ?_⟩
  · rw [flatten_set1 _ _ hone, List.length_set, List.length_set]; exact hx
  · rw [flatten_set1 _ _ hone, List.length_set, ← ht, List.take_set]
  · rw [o1.flat_fp hfl, hf0]
  · rw [hf0]; rfl

/-- A row of two-cell elements that own nothing. -/
theorem ow_set2 {α : Type} {E : Enc α} {ty : TypeId} {w : World} {l : List α} {g n c : Nat} {f : List Nat} (hE : E.size = 2) (hfl : ∀ w cs x f, E.ow w cs x f → f = []) (o : (sliceE E ty).ow w [.slice (some ⟨g, 0, none⟩) n c] l f) (i : Nat) {u v : Value} {y : α}
    (hy : ∀ w, E.ow w [u, v] y []) : (sliceE E ty).ow ((w.setCell ⟨g, i * 2, none⟩ u).setCell ⟨g, i * 2 + 1, none⟩ v) [.slice (some ⟨g, 0, none⟩) n c] (l.set i y) f ∧ f = [g] := by
  obtain ⟨v', xss, fps, he, h1, h2, rfl⟩ := o
  simp only [List.cons.injEq, and_true] at he
  subst he
  obtain ⟨hx, h3⟩ := h2
  rcases h3 with ⟨h3, -⟩ | ⟨g', cap, cur, e3, hg, hh, hc, hm, hs, ht⟩
  · cases h3
  simp only [Value.slice.injEq, Option.some.injEq, Addr.mk.injEq, and_true] at e3
  obtain ⟨rfl, rfl, rfl⟩ := e3
  have hf0 := h1.flat_fp hfl
  have hB : Blk w g cur.toList ty := by unfold Blk; rw [hh]
  have hB' := (hB.set (i * 2) u).set (i * 2 + 1) v
  have hone : ∀ x, x ∈ xss → x.length = 2 := fun x hx => by rw [h1.sizes x hx, hE]
  have o1 := (h1.frame (w' := (w.setCell ⟨g, i * 2, none⟩ u).setCell ⟨g, i * 2 + 1, none⟩ v) (fun b hb => by rw [hf0] at hb; cases hb)).set (hy _) i
  refine ⟨⟨_, xss.set i [u, v], fps.set i [], rfl, o1, ⟨?_, .inr ⟨g, c, ((cur.toList.set (i * 2) u).set (i * 2 + 1) v).toArray, by rw [List.length_set], Nat.zero_le _, hB', by rw [List.length_set]; exact hc, hm, by simpa using hs, ?_⟩⟩, ?_⟩, ?_⟩
  · rw [flatten_set2 _ _ hone, List.length_set, List.length_set, List.length_set]; exact hx
  · rw [flatten_set2 _ _ hone, List.length_set, ← ht, ← List.take_set, ← List.take_set]
  · rw [o1.flat_fp hfl, hf0]
  · rw [hf0]; rfl

theorem flatten_same : ∀ (L : List (List Nat)) (i : Nat) (f : List Nat), L[i]? = some f → L.set i f = L
  | [], i, f, h => by simp at h
  | a :: L, 0, f, h => by
    obtain rfl : a = f := by simpa using h
    rfl
  | a :: L, i + 1, f, h => by rw [List.set_cons_succ, flatten_same L i f (by simpa using h)]
theorem xs_same : ∀ (L : List (List Value)) (i : Nat) (f : List Value), L[i]? = some f → L.set i f = L
  | [], i, f, h => by simp at h
  | a :: L, 0, f, h => by
    obtain rfl : a = f := by simpa using h
    rfl
  | a :: L, i + 1, f, h => by rw [List.set_cons_succ, xs_same L i f (by simpa using h)]

theorem OwAll.but {α : Type} {E : Enc α} {w w' : World} {f : List Nat} (hbut : But f w w') : ∀ {l : List α} {xss : List (List Value)} {fps : List (List Nat)}, OwAll E w l xss fps → ∀ (i : Nat) {cs : List Value} {y : α}, fps.flatten.Nodup → fps[i]? = some f → xss[i]? = some cs → E.ow w' cs y f → OwAll E w' (l.set i y) xss fps
  | _, _, _, .nil, i, _, _, _, h, _, _ => by simp at h
  | _, _, _, @OwAll.cons _ _ _ a l cs0 xss f0 fps h1 h2, i, cs, y, nd, hf, hx, hy => by
    have nd2 := nd
    rw [List.flatten_cons, List.nodup_append] at nd2
    cases i with
    | zero =>
      obtain rfl : f0 = f := by simpa using hf
      obtain rfl : cs0 = cs := by simpa using hx
      exact .cons hy (h2.frame fun b hb => hbut.block b (h2.lt b hb) (fun hb2 => nd2.2.2 b hb2 b hb rfl))
    | succ i =>
      have hf' : fps[i]? = some f := by simpa using hf
      have hsub := (sub_flatten fps i f hf').subset
      refine .cons (E.ow_frame (fun b hb => hbut.block b (E.ow_lt h1 b hb) (fun hb2 => nd2.2.2 b hb b (hsub hb2) rfl)) h1) (h2.but hbut i nd2.2.1 hf' (by simpa using hx) hy)

/-- A row of a slice of slices is changed within. -/
theorem Star.inner {w0 w w' : World} {ps : List Ob} {α : Type} {E : Enc α} {ty : TypeId} {l : List α} {g n c : Nat} (S : Star w0 w (oE (sliceE E ty) [.slice (some ⟨g, 0, none⟩) n c] l :: ps)) (hE : E.size = 1) (i : Nat) (x : α) (hi : l[i]? = some x) {u : Value} (hu : w.cell? ⟨g, i, none⟩ = some u) {y : α}
    (h : ∀ f, E.ow w [u] x f → E.ow w' [u] y f ∧ But f w w') : Star w0 w' (oE (sliceE E ty) [.slice (some ⟨g, 0, none⟩) n c] (l.set i y) :: ps) := by
  refine S.upd ?_
  rintro fp ⟨v, xss, fps, he, h1, h2, rfl⟩ nd hlt
  simp only [List.cons.injEq, and_true] at he
  subst he
  obtain ⟨hx, h3⟩ := h2
  rcases h3 with ⟨h3, -⟩ | ⟨g', cap, cur, e3, hg, hh, hc, hm, hs, ht⟩
  · cases h3
  simp only [Value.slice.injEq, Option.some.injEq, Addr.mk.injEq, and_true] at e3
  obtain ⟨rfl, rfl, rfl⟩ := e3
  have ob : (Value.slice (some ⟨g, 0, none⟩) l.length c).ownBlock.toList = [g] := rfl
  have ob2 : (Value.slice (some ⟨g, 0, none⟩) (l.set i y).length c).ownBlock.toList = [g] := rfl
  rw [ob] at nd hlt ⊢
  have hB : Blk w g cur.toList ty := by unfold Blk; rw [hh]
  obtain ⟨xs, f, e1, e2, e3, e4, e5⟩ := h1.rdAt (B := w.heap.size) (h1.lt) i x hi
  have hone := h1.ones hE xs (List.mem_of_getElem? e1)
  obtain ⟨u', rfl⟩ := List.length_eq_one_iff.1 hone
  have hu2 : w.cell? ⟨g, i, none⟩ = some u' := by
    have := e5 0 u' rfl
    rw [hE, Nat.mul_one, Nat.add_zero, ← ht, List.getElem?_take] at this
    split at this
    · exact hB.cell i (by simpa using this)
    · cases this
  obtain rfl : u = u' := Option.some.inj (hu.symm.trans hu2)
  obtain ⟨hy, hbut⟩ := h f e3
  have hsub := (sub_flatten fps i f e2).subset
  have hgn : g ∉ fps.flatten := by
    rw [List.singleton_append, List.nodup_cons] at nd
    exact nd.1
  have ndf : fps.flatten.Nodup := (List.nodup_append.1 nd).2.1
  have hgl : g < w.heap.size := (Array.getElem?_eq_some_iff.1 hh).1
  have hg' : w'.heap[g]? = w.heap[g]? := hbut.block g hgl (fun hb => hgn (hsub hb))
  refine ⟨[g] ++ fps.flatten, ⟨_, xss, fps, rfl, h1.but hbut i ndf e2 e1 hy, ⟨by rw [List.length_set]; exact hx, .inr ⟨g, c, cur, by rw [List.length_set], hg, by rw [hg']; exact hh, by rw [List.length_set]; exact hc, hm, hs, by rw [List.length_set]; exact ht⟩⟩, rfl⟩, nd, fun b hb => .inl hb, fun b hb => Nat.lt_of_lt_of_le (hlt b hb) hbut.size, hbut.mono fun b hb => List.mem_append_right _ (hsub hb)⟩

theorem flat_str : ∀ w cs x f, strE.ow w cs x f → f = [] := fun _ _ _ _ h => h.2
theorem flat_move : ∀ w cs x f, moveE.ow w cs x f → f = [] := by
  rintro w cs x f ⟨c1, c2, f1, f2, -, rfl, h1, h2⟩
  rw [h1.2, h2.2]
  rfl

/-- A text in a row. -/
theorem Star.setStr {w0 w : World} {ps : List Ob} {ty te : TypeId} {l : List (List ByteArray)} {g n c : Nat} (S : Star w0 w (oE (sliceE (sliceE strE te) ty) [.slice (some ⟨g, 0, none⟩) n c] l :: ps)) (i : Nat) (x : List ByteArray) (hi : l[i]? = some x) {rb rn rc : Nat} (hu : w.cell? ⟨g, i, none⟩ = some (.slice (some ⟨rb, 0, none⟩) rn rc)) (j : Nat) (y : ByteArray) (hy : y.size ≤ maxLen) :
    Star w0 (w.setCell ⟨rb, j, none⟩ (.string y)) (oE (sliceE (sliceE strE te) ty) [.slice (some ⟨g, 0, none⟩) n c] (l.set i (x.set j y)) :: ps) :=
  S.inner rfl i x hi hu fun f o => by
    obtain ⟨o2, rfl⟩ := ow_set1 (E := strE) rfl flat_str o j (u := .string y) (y := y) (fun _ => ⟨⟨rfl, hy⟩, rfl⟩)
    exact ⟨o2, (But.refl _ _).setCell (by simp) _⟩

/-- A move in a row. -/
theorem Star.setMove {w0 w : World} {ps : List Ob} {ty te : TypeId} {l : List (List Move)} {g n c : Nat} (S : Star w0 w (oE (sliceE (sliceE moveE te) ty) [.slice (some ⟨g, 0, none⟩) n c] l :: ps)) (i : Nat) (x : List Move) (hi : l[i]? = some x) {rb rn rc : Nat} (hu : w.cell? ⟨g, i, none⟩ = some (.slice (some ⟨rb, 0, none⟩) rn rc)) (j : Nat) (a b : Int) (ha : -9223372036854775808 ≤ a ∧ a ≤ 9223372036854775807) (hb : -9223372036854775808 ≤ b ∧ b ≤ 9223372036854775807) :
    Star w0 ((w.setCell ⟨rb, j * 2, none⟩ (.int .i64 a)).setCell ⟨rb, j * 2 + 1, none⟩ (.int .i64 b)) (oE (sliceE (sliceE moveE te) ty) [.slice (some ⟨g, 0, none⟩) n c] (l.set i (x.set j ⟨a, b⟩)) :: ps) :=
  S.inner rfl i x hi hu fun f o => by
    obtain ⟨o2, rfl⟩ := ow_set2 (E := moveE) rfl flat_move o j (u := .int .i64 a) (v := .int .i64 b) (y := ⟨a, b⟩) (fun _ => ⟨[_], [_], [], [], rfl, rfl, ⟨⟨rfl, ha⟩, rfl⟩, ⟨⟨rfl, hb⟩, rfl⟩⟩)
    exact ⟨o2, ((But.refl _ _).setCell (by simp) _).setCell (by simp) _⟩

end Go.Proofs.YtjochoghmpcgdaaDoor

/-
  Plain lemmas: append of a whole slice of one's own, at moves and texts; rows of a slice of slices (written by a program of this claim's own, gen_join.py).
-/
namespace Go.Proofs.YtjochoghmpcgdaaDoor
open Go.RowKit

theorem one_moves_ow : ∀ (w : World) (x : List Move) (cs : List Value) (f : List Nat), movesE.ow w cs x f → ∀ u, u ∈ cs → u.oneCell' = true := by
  intro w x cs f h u hu
  obtain ⟨v, rfl⟩ := one_of (Enc.rd_len _ (Enc.rd_ow _ h))
  obtain ⟨sa, sn, sc, rfl⟩ := ow_slice h
  have : u = .slice sa sn sc := by simpa using hu
  subst this; rfl

/-- append of a whole slice of one's own. -/
theorem stJ_MoveSS {w0 w : World} {ps : List Ob} {ops : Array Oper} {rest : List Oper} {o : Oper} {a : Act} {Q : Exit → Act → World → Prop} {s x : Operand} {v v2 : Value} {l l2 : List (List Move)}
    (S : Star w0 w (oE movessE [v] l :: oE movessE [v2] l2 :: ps)) (hgd : o.guard = none)
    (ho : o.op = .call { callee := .builtin .append, args := #[s, x], argTypes := #[25, 25] }) (hv : a.eval s = v) (hx : a.eval x = v2) (hlen : l.length + l2.length ≤ 1000000000000)
    (h : ∀ sa sn sc w', Star w0 w' (oE movessE [.slice sa sn sc] (l ++ l2) :: ps) → wpList Tryd.prog ops Q rest (a.put o.dst (.slice sa sn sc)) w') : wpList Tryd.prog ops Q (o :: rest) a w := by
  obtain ⟨B, fp, hh, d⟩ := S
  obtain ⟨p1, p2, p3⟩ := hh 0 _ rfl
  obtain ⟨q1, q2, q3⟩ := hh 1 _ rfl
  obtain ⟨css, fys, e1, e2, e3⟩ := srcS_own one_moves_ow q1
  have hsub : ∀ b, b ∈ fys.flatten → b ∈ fp 1 := fun b hb => by rw [e3]; exact List.mem_append_right _ hb
  have hnd : (fp 0 ++ fys.flatten).Nodup := by
    have d01 := d 0 1 (by omega) (by simp) (by simp)
    rw [e3] at q2
    exact Dj.nodup (fun b hb hb2 => d01 b hb (hsub b hb2)) p2 (List.nodup_append.1 q2).2.1
  refine appS_MoveSS hgd s x ho hv p1 e1 (by rw [hx]; exact e2) hnd hlen (fun v' w' fp' k1 k2 k3 k4 => ?_)
  obtain ⟨sa, sn, sc, rfl⟩ := ow_slice k1
  refine h sa sn sc w' ⟨B.trans (k4.below (fun b hb => (p3 b hb).1) B.size), fun i => match i with | 0 => fp' | i + 1 => fp (i + 2), fun i Q hQ => ?_, fun i j hij hi hj => ?_⟩
  · cases i with
    | zero =>
      obtain rfl : _ = Q := by simpa using hQ
      refine ⟨k1, k2, fun b hm => ⟨?_, Enc.ow_lt _ k1 b hm⟩⟩
      rcases k3 b hm with h1 | h1 | h1
      · exact (p3 b h1).1
      · exact (q3 b (hsub b h1)).1
      · have := B.size; omega
    | succ i =>
      have hQ' : ps[i]? = some Q := by simpa using hQ
      obtain ⟨h1, h2, h3⟩ := hh (i + 2) Q hQ'
      have hil := (List.getElem?_eq_some_iff.1 hQ').1
      refine ⟨Q.frame (fun b hm => k4.block b (h3 b hm).2 (fun hf => ?_)) h1, h2, fun b hm => ⟨(h3 b hm).1, Nat.lt_of_lt_of_le (h3 b hm).2 k4.size⟩⟩
      exact d 0 (i + 2) (by omega) (by simp) (by simpa using hil) b hf hm
  · have hd0 : ∀ i, i < ps.length → Dj fp' (fp (i + 2)) := by
      intro i hi b hb1 hb2
      rcases k3 b hb1 with h1 | h1 | h1
      · exact d 0 (i + 2) (by omega) (by simp) (by simpa using hi) b h1 hb2
      · exact d 1 (i + 2) (by omega) (by simp) (by simpa using hi) b (hsub b h1) hb2
      · have := ((hh (i + 2) _ (by rw [List.getElem?_cons_succ, List.getElem?_cons_succ]; exact List.getElem?_eq_getElem hi)).2.2 b hb2).2
        omega
    cases i with
    | zero =>
      cases j with
      | zero => exact absurd rfl hij
      | succ j => exact hd0 j (by simpa using hj)
    | succ i =>
      cases j with
      | zero => exact (hd0 i (by simpa using hi)).symm
      | succ j => exact d (i + 2) (j + 2) (by omega) (by simpa using hi) (by simpa using hj)

theorem one_strs_ow : ∀ (w : World) (x : List ByteArray) (cs : List Value) (f : List Nat), strsE.ow w cs x f → ∀ u, u ∈ cs → u.oneCell' = true := by
  intro w x cs f h u hu
  obtain ⟨v, rfl⟩ := one_of (Enc.rd_len _ (Enc.rd_ow _ h))
  obtain ⟨sa, sn, sc, rfl⟩ := ow_slice h
  have : u = .slice sa sn sc := by simpa using hu
  subst this; rfl

/-- append of a whole slice of one's own. -/
theorem stJ_StringSS {w0 w : World} {ps : List Ob} {ops : Array Oper} {rest : List Oper} {o : Oper} {a : Act} {Q : Exit → Act → World → Prop} {s x : Operand} {v v2 : Value} {l l2 : List (List ByteArray)}
    (S : Star w0 w (oE strssE [v] l :: oE strssE [v2] l2 :: ps)) (hgd : o.guard = none)
    (ho : o.op = .call { callee := .builtin .append, args := #[s, x], argTypes := #[28, 28] }) (hv : a.eval s = v) (hx : a.eval x = v2) (hlen : l.length + l2.length ≤ 1000000000000)
    (h : ∀ sa sn sc w', Star w0 w' (oE strssE [.slice sa sn sc] (l ++ l2) :: ps) → wpList Tryd.prog ops Q rest (a.put o.dst (.slice sa sn sc)) w') : wpList Tryd.prog ops Q (o :: rest) a w := by
  obtain ⟨B, fp, hh, d⟩ := S
  obtain ⟨p1, p2, p3⟩ := hh 0 _ rfl
  obtain ⟨q1, q2, q3⟩ := hh 1 _ rfl
  obtain ⟨css, fys, e1, e2, e3⟩ := srcS_own one_strs_ow q1
  have hsub : ∀ b, b ∈ fys.flatten → b ∈ fp 1 := fun b hb => by rw [e3]; exact List.mem_append_right _ hb
  have hnd : (fp 0 ++ fys.flatten).Nodup := by
    have d01 := d 0 1 (by omega) (by simp) (by simp)
    rw [e3] at q2
    exact Dj.nodup (fun b hb hb2 => d01 b hb (hsub b hb2)) p2 (List.nodup_append.1 q2).2.1
  refine appS_StringSS hgd s x ho hv p1 e1 (by rw [hx]; exact e2) hnd hlen (fun v' w' fp' k1 k2 k3 k4 => ?_)
  obtain ⟨sa, sn, sc, rfl⟩ := ow_slice k1
  refine h sa sn sc w' ⟨B.trans (k4.below (fun b hb => (p3 b hb).1) B.size), fun i => match i with | 0 => fp' | i + 1 => fp (i + 2), fun i Q hQ => ?_, fun i j hij hi hj => ?_⟩
  · cases i with
    | zero =>
      obtain rfl : _ = Q := by simpa using hQ
      refine ⟨k1, k2, fun b hm => ⟨?_, Enc.ow_lt _ k1 b hm⟩⟩
      rcases k3 b hm with h1 | h1 | h1
      · exact (p3 b h1).1
      · exact (q3 b (hsub b h1)).1
      · have := B.size; omega
    | succ i =>
      have hQ' : ps[i]? = some Q := by simpa using hQ
      obtain ⟨h1, h2, h3⟩ := hh (i + 2) Q hQ'
      have hil := (List.getElem?_eq_some_iff.1 hQ').1
      refine ⟨Q.frame (fun b hm => k4.block b (h3 b hm).2 (fun hf => ?_)) h1, h2, fun b hm => ⟨(h3 b hm).1, Nat.lt_of_lt_of_le (h3 b hm).2 k4.size⟩⟩
      exact d 0 (i + 2) (by omega) (by simp) (by simpa using hil) b hf hm
  · have hd0 : ∀ i, i < ps.length → Dj fp' (fp (i + 2)) := by
      intro i hi b hb1 hb2
      rcases k3 b hb1 with h1 | h1 | h1
      · exact d 0 (i + 2) (by omega) (by simp) (by simpa using hi) b h1 hb2
      · exact d 1 (i + 2) (by omega) (by simp) (by simpa using hi) b (hsub b h1) hb2
      · have := ((hh (i + 2) _ (by rw [List.getElem?_cons_succ, List.getElem?_cons_succ]; exact List.getElem?_eq_getElem hi)).2.2 b hb2).2
        omega
    cases i with
    | zero =>
      cases j with
      | zero => exact absurd rfl hij
      | succ j => exact hd0 j (by simpa using hj)
    | succ i =>
      cases j with
      | zero => exact (hd0 i (by simpa using hi)).symm
      | succ j => exact d (i + 2) (j + 2) (by omega) (by simpa using hi) (by simpa using hj)

theorem mix_get {α β : Type} (f g : α → β) (l : List α) (j : Nat) (hj : j < l.length) : ((l.take j).map f ++ (l.drop j).map g)[j]? = some (g l[j]) := by
  have h1 : ((l.take j).map f).length = j := by rw [List.length_map, List.length_take]; omega
  rw [List.getElem?_append_right (by omega), h1, Nat.sub_self, List.drop_eq_getElem_cons hj]
  rfl
theorem mix_set {α β : Type} (f g : α → β) (l : List α) (j : Nat) (hj : j < l.length) : ((l.take j).map f ++ (l.drop j).map g).set j (f l[j]) = (l.take (j + 1)).map f ++ (l.drop (j + 1)).map g := by
  have h1 : ((l.take j).map f).length = j := by rw [List.length_map, List.length_take]; omega
  rw [List.set_append_right _ _ (by omega), h1, Nat.sub_self, List.drop_eq_getElem_cons hj, List.take_succ_eq_append_getElem hj, List.map_append, List.map_cons, List.set_cons_zero, List.append_assoc]
  rfl
theorem mix_same {α β : Type} (f g : α → β) (l : List α) (j : Nat) (hj : j < l.length) (h : f l[j] = g l[j]) : (l.take (j + 1)).map f ++ (l.drop (j + 1)).map g = (l.take j).map f ++ (l.drop j).map g := by
  rw [List.drop_eq_getElem_cons hj, List.take_succ_eq_append_getElem hj, List.map_append, List.map_cons, List.append_assoc, h]
  rfl
theorem mix_len {α β : Type} (f g : α → β) (l : List α) (j : Nat) : ((l.take j).map f ++ (l.drop j).map g).length = l.length := by
  rw [List.length_append, List.length_map, List.length_map, List.length_take, List.length_drop]
  omega

theorem ow_slice0 {α : Type} {E : Enc α} {ty : TypeId} {w : World} {v : Value} {l : List α} {f : List Nat} (o : (sliceE E ty).ow w [v] l f) (hl : 0 < l.length) :
    ∃ g c, v = .slice (some ⟨g, 0, none⟩) l.length c ∧ l.length ≤ c ∧ c ≤ maxLen ∧ (∀ i, w.frozen? ⟨g, i, none⟩ = false) ∧ ∀ i x, l[i]? = some x → ∃ xs, E.rd w w.heap.size xs x ∧ (∃ f', E.ow w xs x f') ∧ ∀ j u, xs[j]? = some u → w.cell? ⟨g, i * E.size + j, none⟩ = some u := by
  obtain ⟨v', xss, fps, he, h1, h2, -⟩ := o
  simp only [List.cons.injEq, and_true] at he
  subst he
  obtain ⟨hx, h3⟩ := h2
  rcases h3 with ⟨-, h3⟩ | ⟨g, cap, cur, rfl, hg, hh, hc, hm, hs, ht⟩
  · omega
  have hB : Blk w g cur.toList ty := by unfold Blk; rw [hh]
  refine ⟨g, cap, rfl, hc, hm, hB.free, fun i x hi => ?_⟩
  obtain ⟨xs, f, e1, e2, e3, e4, e5⟩ := h1.rdAt (B := w.heap.size) (h1.lt) i x hi
  refine ⟨xs, e4, ⟨f, e3⟩, fun j u hu => ?_⟩
  have := e5 j u hu
  rw [← ht, List.getElem?_take] at this
  split at this
  · exact hB.cell _ (by simpa using this)
  · cases this

/-- A slice of slices of one's own, and one of its rows. -/
theorem Star.rows {w0 w : World} {ps : List Ob} (S : Star w0 w ps) (n : Nat) {α : Type} {E : Enc α} {ty te : TypeId} {v : Value} {l : List (List α)} (h : ps[n]? = some (oE (sliceE (sliceE E te) ty) [v] l)) (hl : 0 < l.length) :
    ∃ g c, v = .slice (some ⟨g, 0, none⟩) l.length c ∧ l.length ≤ c ∧ c ≤ maxLen ∧ (∀ i, w.frozen? ⟨g, i, none⟩ = false) ∧ ∀ i x, l[i]? = some x → 0 < x.length →
      ∃ rb rc, w.cell? ⟨g, i, none⟩ = some (.slice (some ⟨rb, 0, none⟩) x.length rc) ∧ x.length ≤ rc ∧ rc ≤ maxLen ∧ (∀ k, w.frozen? ⟨rb, k, none⟩ = false) ∧ ∀ k y, x[k]? = some y → ∃ ys, E.rd w w.heap.size ys y ∧ ∀ j u, ys[j]? = some u → w.cell? ⟨rb, k * E.size + j, none⟩ = some u := by
  obtain ⟨f, o⟩ := S.own n h
  obtain ⟨g, c, rfl, h1, h2, h3, h4⟩ := ow_slice0 o hl
  refine ⟨g, c, rfl, h1, h2, h3, fun i x hi hx => ?_⟩
  obtain ⟨xs, r1, ⟨f', o'⟩, r2⟩ := h4 i x hi
  obtain ⟨u, rfl⟩ := one_of (Enc.rd_len _ r1)
  obtain ⟨rb, rc, rfl, k1, k2, k3, k4⟩ := ow_slice0 o' hx
  refine ⟨rb, rc, ?_, k1, k2, k3, fun k y hy => ?_⟩
  · have := r2 0 _ rfl
    rwa [show (sliceE E te).size = 1 from rfl, Nat.mul_one, Nat.add_zero] at this
  · obtain ⟨ys, e1, -, e2⟩ := k4 k y hy
    exact ⟨ys, e1, e2⟩

theorem rd_move2 {w : World} {B : Nat} {cs : List Value} {m : Move} (h : moveE.rd w B cs m) : cs = [.int .i64 m.to, .int .i64 m.dir] ∧ (-9223372036854775808 ≤ m.to ∧ m.to ≤ 9223372036854775807) ∧ (-9223372036854775808 ≤ m.dir ∧ m.dir ≤ 9223372036854775807) := by
  obtain ⟨c1, c2, rfl, h1, h2⟩ := h
  obtain ⟨e1, b1⟩ := h1
  obtain ⟨e2, b2⟩ := h2
  exact ⟨by rw [e1, e2]; rfl, b1, b2⟩

theorem rd_s1p {α : Type} [Inhabited α] {E : Enc α} {ty : TypeId} {w : World} {B : Nat} {v : Value} {l : List α} (hs : E.size = 1) (h : (sliceE E ty).rd w B [v] l) (hl : 0 < l.length) :
    ∃ b o cap, v = .slice (some ⟨b, o, none⟩) l.length cap ∧ l.length ≤ cap ∧ cap ≤ 9223372036854775807 ∧
      ∀ k, k < l.length → ∃ vk, w.cell? ⟨b, o + k, none⟩ = some vk ∧ E.rd w B [vk] (l[k]?.getD default) := by
  obtain ⟨a, cap, rfl, h1, h2, -, h4⟩ := rd_slice1 hs h
  obtain ⟨b, o, v0, rfl, -, -, -⟩ := h4 0 hl
  refine ⟨b, o, cap, rfl, h1, h2, fun k hk => ?_⟩
  obtain ⟨b', o', vk, e, -, h6, h7⟩ := h4 k hk
  cases e
  exact ⟨vk, h6, h7⟩

end Go.Proofs.YtjochoghmpcgdaaDoor

/-
  Places met, in a map of the call's own (map[Place]int); lists of places.
-/
namespace Go.Proofs.YtjochoghmpcgdaaDoor
open Go.RowKit Go.Maps Go.WideMaps

theorem laidOutP : laidOutB Tryd.prog = true := by kernel_rfl
theorem rowPl : (96 : TypeId) < Tryd.prog.types.size := of_decide_eq_true (by kernel_rfl)
theorem pos_succP {n : Nat} (h : 0 < n) : ∃ m, n = m + 1 := ⟨n - 1, by omega⟩
theorem posPl : 0 < Tryd.prog.types.size := of_decide_eq_true (by kernel_rfl)
theorem sizePl : ∃ m, Tryd.prog.types.size = m + 1 := pos_succP posPl
theorem widePl : (match Tryd.prog.underlying 96 with | some (.array _ _) | some (.struct _) => true | _ => false) = true := by kernel_rfl
set_option maxRecDepth 100000 in
theorem lawPl : Keyed Tryd.prog 96 := Keyed.of_law (deep_law_laid laidOutP (m := 2) (by omega) rowPl (by kernel_rfl) widePl)
theorem undMapP : Tryd.prog.underlying 128 = some (.map 96 3) := by kernel_rfl
theorem undInt : Tryd.prog.underlying 3 = some (.int .i64) := by kernel_rfl
theorem undI64P : Tryd.prog.underlying 2 = some (.int .i64) := by kernel_rfl
theorem zeroInt (w : World) : (zeroValue 3).run Tryd.prog w = .ok (.int .i64 0) w := by kernel_rfl
theorem ktPl : Tryd.prog.keyType 96 = true := by kernel_rfl
theorem cellsPl : Tryd.prog.cellsOf 96 = 2 := by kernel_rfl
theorem cellsI64 : Tryd.prog.cellsOf 2 = 1 := by kernel_rfl

def plV (p q : Nat) : Value := .agg #[.int .i64 p, .int .i64 q]
def plL (p q : Nat) : Lit := .string (keyBytes [.int .i64 p, .int .i64 q])

theorem keyPl {p q : Nat} (hp : p < 1000000) (hq : q < 1000000) : keyOf Tryd.prog 96 (plV p q) = some (plL p q) := by
  have wp : (Lit.int .i64 (p : Int)).wf = true := WalkArith.wf_i64 (by omega)
  have wq : (Lit.int .i64 (q : Int)).wf = true := WalkArith.wf_i64 (by omega)
  obtain ⟨m, hm⟩ := sizePl
  have hu := Tryd.underlying96
  unfold keyOf plV plL
  simp only [hu]
  rw [if_pos (by simp [ktPl, Value.formed, hu, cellsPl]), hm]
  unfold Program.keyLits
  simp only [hu, Value.cells]
  rw [if_pos ⟨by rw [cellsPl]; rfl, by kernel_rfl⟩]
  simp [Program.keyLits, undI64P, wp, wq, cellsI64]

theorem plL_ne {p q p' q' : Nat} (hp : p < 1000000) (hq : q < 1000000) (hp' : p' < 1000000) (hq' : q' < 1000000) (h : (p, q) ≠ (p', q')) : plL p q ≠ plL p' q' := fun e => by
  have h1 := keyPl hp hq
  have h2 := keyPl hp' hq'
  rw [← e] at h2
  have h3 := lawPl.inj h1 h2
  unfold plV at h3
  simp only [Value.agg.injEq, Array.mk.injEq, List.cons.injEq, Value.int.injEq, true_and, and_true] at h3
  exact h (Prod.ext (by omega) (by omega))

/-- Block b is a map that holds just these places. -/
def MetIs (w : World) (b : Nat) (L : List Pl) : Prop :=
  ∃ D : DataW Unit, w.ownsMap Tryd.prog 96 (plainElem Tryd.prog 3) b L.length D ∧ ∀ p q : Nat, p < 1000000 → q < 1000000 → Maps.has D (plL p q) = L.contains (p, q)

def oMet (b : Nat) (L : List Pl) : Ob := ⟨fun w fp => MetIs w b L ∧ fp = [b], fun {w w' fp} hf h => by
  obtain ⟨⟨D, ⟨es, clock, hb, F, hs, hD⟩, h2⟩, rfl⟩ := h
  exact ⟨⟨D, ⟨es, clock, (hf b (by simp)).trans hb, F, hs, hD⟩, h2⟩, rfl⟩⟩

theorem Star.allocMet {w0 w : World} {ps : List Ob} (S : Star w0 w ps) : Star w0 (w.alloc (.map #[] 0)) (oMet w.heap.size [] :: ps) :=
  S.push (P := oMet w.heap.size []) (f := [w.heap.size]) ((Below.refl _ _).alloc (Nat.le_refl _) _) ⟨⟨.map [], World.ownsMap_made _ _ _ _, fun p q _ _ => rfl⟩, rfl⟩ (by simp) (fun b hb => by rw [List.mem_singleton.1 hb]; exact Nat.le_refl _) (fun b hb => by rw [List.mem_singleton.1 hb, World.size_alloc]; exact Nat.lt_succ_self _)

theorem Star.metIs {w0 w : World} {ps : List Ob} (S : Star w0 w ps) (n : Nat) {b : Nat} {L : List Pl} (h : ps[n]? = some (oMet b L)) : MetIs w b L := by
  obtain ⟨-, fp, hh, -⟩ := S
  exact ((hh n _ h).1).1

theorem MetIs.put {w : World} {b : Nat} {L : List Pl} (h : MetIs w b L) {p q : Nat} (hp : p < 1000000) (hq : q < 1000000) (hl : L.length < 1000000000000) (v : Nat) (hv : v < 1000000000000) :
    ∃ w', (Instr.mapUpdate 128 (.map (some b)) (plV p q) (.int .i64 v)).run Tryd.prog w = .ok () w' ∧ MetIs w' b (L ++ [(p, q)]) ∧ w.grownBy w' (some b) := by
  obtain ⟨D, h1, h2⟩ := h
  obtain ⟨w', r1, r2, r3⟩ := h1.update lawPl undMapP (by unfold maxLen; omega) (keyPl hp hq) (plainElem_int undInt (show (Lit.int .i64 (v : Int)).wf = true from WalkArith.wf_i64 (by omega)))
  refine ⟨w', r1, ⟨_, by rw [List.length_append]; exact r2, fun p' q' hp' hq' => ?_⟩, r3⟩
  have hm : Maps.IsMap D := by
    obtain ⟨es, clock, -, -, -, rfl⟩ := h1
    exact ⟨_, rfl⟩
  by_cases he : (p', q') = (p, q)
  · cases he
    rw [Maps.has_put_same hm (lawPl.key (keyPl hp hq))]
    simp
  · rw [Maps.has_put_other (plL_ne hp' hq' hp hq he), h2 p' q' hp' hq']
    rw [Bool.eq_iff_iff]
    simp only [List.contains_eq_mem, decide_eq_true_eq, List.mem_append, List.mem_singleton]
    constructor
    · intro h; exact .inl h
    · rintro (h | h)
      · exact h
      · exact absurd h he

theorem MetIs.look {w : World} {b : Nat} {L : List Pl} (h : MetIs w b L) {p q : Nat} (hp : p < 1000000) (hq : q < 1000000) :
    ∃ c : Int, (Instr.lookup 128 (.map (some b)) (plV p q) true).run Tryd.prog w = .ok (.tuple #[.int .i64 c, .bool (L.contains (p, q))]) w := by
  obtain ⟨D, h1, h2⟩ := h
  obtain ⟨v, ps, hrun, hv⟩ := h1.look_ok lawPl undMapP (zeroInt w) (plainElem_int undInt (by decide)) (keyPl hp hq)
  rw [h2 p q hp hq] at hrun
  obtain ⟨c, rfl, -, -⟩ := plainElem_int_inv undInt hv
  exact ⟨c, hrun⟩

/-- The map is written: all else that the call holds is as it was. -/
theorem Star.putMet {w0 w w' : World} {ps : List Ob} {b : Nat} {L L' : List Pl} (S : Star w0 w (oMet b L :: ps)) (h : MetIs w' b L') (hg : w.grownBy w' (some b)) : Star w0 w' (oMet b L' :: ps) :=
  S.upd fun f hf _ hlt => ⟨f, ⟨h, hf.2⟩, by rw [hf.2]; simp, fun x hx => .inl hx, fun x hx => by
    rw [hf.2] at hx
    rw [List.mem_singleton.1 hx]
    obtain ⟨D, h1, -⟩ := h
    exact h1.lt, by
    rw [hf.2]
    exact ⟨hg.os, hg.tape, hg.output, hg.size, fun i hi hn => hg.block i hi (fun e => hn (by simp at e; simp [e]))⟩⟩

theorem stp_put {w0 w : World} {ps : List Ob} {ops : Array Oper} {rest : List Oper} {o : Oper} {a : Act} {Q : Exit → Act → World → Prop} {m x v : Operand} {b p q n : Nat} {L : List Pl}
    (S : Star w0 w (oMet b L :: ps)) (hg : o.guard = none) (ho : o.op = .mapUpdate 128 m x v) (hm : a.eval m = .map (some b)) (hx : a.eval x = plV p q) (hv : a.eval v = .int .i64 n)
    (hp : p < 1000000) (hq : q < 1000000) (hl : L.length < 1000000000000) (hn : n < 1000000000000) (h : ∀ w', Star w0 w' (oMet b (L ++ [(p, q)]) :: ps) → wpList Tryd.prog ops Q rest (a.put o.dst undef) w') : wpList Tryd.prog ops Q (o :: rest) a w := by
  refine wpList_plain hg fun K' hK' => ?_
  obtain ⟨w', hrun, r1, r2⟩ := (S.metIs 0 rfl).put hp hq hl n hn
  unfold Oper.wp
  simp [execOp, ho, hm, hx, hv, hrun, Result.andThen]
  exact hK' _ _ (h w' (S.putMet r1 r2))

theorem stp_look {w0 w : World} {ps : List Ob} {ops : Array Oper} {rest : List Oper} {o : Oper} {a : Act} {Q : Exit → Act → World → Prop} {m x : Operand} {b p q : Nat} {L : List Pl}
    (S : Star w0 w ps) (n : Nat) (hn : ps[n]? = some (oMet b L)) (hg : o.guard = none) (ho : o.op = .lookup 128 m x true) (hm : a.eval m = .map (some b)) (hx : a.eval x = plV p q)
    (hp : p < 1000000) (hq : q < 1000000) (h : ∀ c : Int, wpList Tryd.prog ops Q rest (a.put o.dst (.tuple #[.int .i64 c, .bool (L.contains (p, q))])) w) : wpList Tryd.prog ops Q (o :: rest) a w := by
  refine wpList_plain hg fun K' hK' => ?_
  obtain ⟨c, hrun⟩ := (S.metIs n hn).look hp hq
  unfold Oper.wp
  simp [execOp, ho, hm, hx, hrun, Result.andThen]
  exact hK' _ _ (by simpa using h c)

/-- Places in cells. -/
def plE : Enc Pl := viaE (pairE intE intE) fun p => ((p.1 : Int), (p.2 : Int))
abbrev plsE := sliceE plE 96
theorem rd_pl {w : World} {B : Nat} {cs : List Value} {x : Pl} (h : plE.rd w B cs x) : cs = [.int .i64 (x.1 : Nat), .int .i64 (x.2 : Nat)] := by
  obtain ⟨c1, c2, rfl, h1, h2⟩ := h
  rw [h1.1, h2.1]; rfl
theorem ow_pl {x : Pl} (h1 : x.1 < 1000000) (h2 : x.2 < 1000000) (w : World) : plE.ow w [.int .i64 (x.1 : Nat), .int .i64 (x.2 : Nat)] x [] := by
  have b1 : -9223372036854775808 ≤ (x.1 : Int) ∧ (x.1 : Int) ≤ 9223372036854775807 := ⟨by omega, by omega⟩
  have b2 : -9223372036854775808 ≤ (x.2 : Int) ∧ (x.2 : Int) ≤ 9223372036854775807 := ⟨by omega, by omega⟩
  exact ⟨[_], [_], [], [], rfl, rfl, ⟨⟨rfl, b1⟩, rfl⟩, ⟨⟨rfl, b2⟩, rfl⟩⟩

theorem inf_PlS : (Tryd.prog.info? 96).map (fun i => (i.zero, i.size, i.bytes)) = some (some (.agg #[.int .i64 0, .int .i64 0]), 2, 16) := by kernel_rfl

theorem app1_PlS {w : World} {ops : Array Oper} {rest : List Oper} {o : Oper} {a : Act} {Q : Exit → Act → World → Prop} (hgd : o.guard = none) (s x : Operand)
    (ho : o.op = .call { callee := .builtin .append, args := #[s, x], argTypes := #[89, 89] }) {v : Value} {l : List _} {fp : List Nat} (hv : a.eval s = v) (hown : (sliceE plE 96).ow w [v] l fp) (hn : fp.Nodup)
    {g c : Nat} (hx : a.eval x = .slice (some ⟨g, 0, none⟩) 1 c) {y : _} {cs : List Value} {fy : List Nat} (hc : ∀ j u, cs[j]? = some u → w.cell? ⟨g, j, none⟩ = some u) (h1 : ∀ u, u ∈ cs → u.oneCell' = true) (hy : (plE).ow w cs y fy)
    (hny : fy.Nodup) (hd : ∀ b, b ∈ fy → b ∉ fp) (hlen : l.length ≤ 1000000000000)
    (h : ∀ v' w' fp', (sliceE plE 96).ow w' [v'] (l ++ [y]) fp' → fp'.Nodup → (∀ b, b ∈ fp' → b ∈ fp ∨ b ∈ fy ∨ w.heap.size ≤ b) → But fp w w' → wpList Tryd.prog ops Q rest (a.put o.dst v') w') : wpList Tryd.prog ops Q (o :: rest) a w := by
  obtain ⟨i0, hi, hz0, hz1, hz2⟩ := info_parts inf_PlS
  exact wpList_append_one (E := plE) (ty := 96) hgd s x _ ho i0 _ _ Tryd.underlying89 hi hz0 hz1 hz2 rfl (by decide) (by decide) hv hown hn hx hc h1 hy hny hd hlen h

theorem st1_PlS {w0 w : World} {ps : List Ob} {ops : Array Oper} {rest : List Oper} {o : Oper} {a : Act} {Q : Exit → Act → World → Prop} {s x : Operand} {v : Value} {l : List Pl} {b c : Nat} {y : Pl} {cs : List Value}
    (S : Star w0 w (oE (sliceE plE 96) [v] l :: oE plE cs y :: ps)) (hgd : o.guard = none)
    (ho : o.op = .call { callee := .builtin .append, args := #[s, x], argTypes := #[89, 89] }) (hv : a.eval s = v)
    (hx : a.eval x = .slice (some ⟨b, 0, none⟩) 1 c) (hc : ∀ j u, cs[j]? = some u → w.cell? ⟨b, j, none⟩ = some u) (h1 : ∀ u, u ∈ cs → u.oneCell' = true) (hlen : l.length ≤ 1000000000000)
    (h : ∀ sa sn sc w', Star w0 w' (oE (sliceE plE 96) [.slice sa sn sc] (l ++ [y]) :: ps) → wpList Tryd.prog ops Q rest (a.put o.dst (.slice sa sn sc)) w') : wpList Tryd.prog ops Q (o :: rest) a w := by
  obtain ⟨B, fp, hh, d⟩ := S
  obtain ⟨p1, p2, p3⟩ := hh 0 _ rfl
  obtain ⟨q1, q2, q3⟩ := hh 1 _ rfl
  have d01 := d 1 0 (by omega) (by simp) (by simp)
  refine app1_PlS hgd s x ho hv p1 p2 hx hc h1 q1 q2 d01 hlen (fun v' w' fp' k1 k2 k3 k4 => ?_)
  obtain ⟨sa, sn, sc, rfl⟩ := ow_slice k1
  refine h sa sn sc w' ⟨B.trans (k4.below (fun b hb => (p3 b hb).1) B.size), fun i => match i with | 0 => fp' | i + 1 => fp (i + 2), fun i Q hQ => ?_, fun i j hij hi hj => ?_⟩
  · cases i with
    | zero =>
      obtain rfl : _ = Q := by simpa using hQ
      refine ⟨k1, k2, fun b hm => ⟨?_, Enc.ow_lt _ k1 b hm⟩⟩
      rcases k3 b hm with h1 | h1 | h1
      · exact (p3 b h1).1
      · exact (q3 b h1).1
      · have := B.size; omega
    | succ i =>
      have hQ' : ps[i]? = some Q := by simpa using hQ
      obtain ⟨h1, h2, h3⟩ := hh (i + 2) Q hQ'
      have hil := (List.getElem?_eq_some_iff.1 hQ').1
      refine ⟨Q.frame (fun b hm => k4.block b (h3 b hm).2 (fun hf => ?_)) h1, h2, fun b hm => ⟨(h3 b hm).1, Nat.lt_of_lt_of_le (h3 b hm).2 k4.size⟩⟩
      exact d 0 (i + 2) (by omega) (by simp) (by simpa using hil) b hf hm
  · have hd0 : ∀ i, i < ps.length → Dj fp' (fp (i + 2)) := by
      intro i hi b hb1 hb2
      rcases k3 b hb1 with h1 | h1 | h1
      · exact d 0 (i + 2) (by omega) (by simp) (by simpa using hi) b h1 hb2
      · exact d 1 (i + 2) (by omega) (by simp) (by simpa using hi) b h1 hb2
      · have := ((hh (i + 2) _ (by rw [List.getElem?_cons_succ, List.getElem?_cons_succ]; exact List.getElem?_eq_getElem hi)).2.2 b hb2).2
        omega
    cases i with
    | zero =>
      cases j with
      | zero => exact absurd rfl hij
      | succ j => exact hd0 j (by simpa using hj)
    | succ i =>
      cases j with
      | zero => exact (hd0 i (by simpa using hi)).symm
      | succ j => exact d (i + 2) (j + 2) (by omega) (by simpa using hi) (by simpa using hj)

theorem Star.pls {w0 w : World} {ps : List Ob} (S : Star w0 w ps) (n : Nat) {ty : TypeId} {v : Value} {l : List Pl} (h : ps[n]? = some (oE (sliceE plE ty) [v] l)) (hl : 0 < l.length) :
    ∃ b o cap, v = .slice (some ⟨b, o, none⟩) l.length cap ∧ l.length ≤ cap ∧ cap ≤ 9223372036854775807 ∧ ∀ k x, l[k]? = some x → w.cell? ⟨b, o + k * 2, none⟩ = some (.int .i64 (x.1 : Nat)) ∧ w.cell? ⟨b, o + k * 2 + 1, none⟩ = some (.int .i64 (x.2 : Nat)) := by
  obtain ⟨a, cap, hv, h1, h2, h3, h4⟩ := S.rd n h
  obtain rfl : v = .slice a l.length cap := by simpa using hv
  obtain ⟨b, o, xs, rfl, -, -, -⟩ := h4 0 l[0] (List.getElem?_eq_getElem hl)
  refine ⟨b, o, cap, rfl, h1, by simpa [maxLen] using h2, fun k x hx => ?_⟩
  obtain ⟨b', o', xs, e, -, e3, e4⟩ := h4 k x hx
  cases e
  obtain rfl := rd_pl e3
  have hs : plE.size = 2 := rfl
  rw [hs] at e4
  exact ⟨by have := e4 0 _ rfl; simpa [Nat.add_assoc] using this, by have := e4 1 _ rfl; simpa [Nat.add_assoc] using this⟩

end Go.Proofs.YtjochoghmpcgdaaDoor
