/-
  What this claim leans on: values in cells, contracts of functions (28 texts of this claim's own, laid together).
-/
import Derived.Test.YtjochoghmpcgdaaDoorPackA
import Derived.Laws.CopyOwn
import Derived.Maps.Own
import Derived.Maps.OwnSet
import Derived.Maps.Views
import Derived.DeepKeys4
import Derived.WideKeyPair
import Derived.PlainAid
import Derived.Test.YtjochoghmpcgdaaDoorProg
import Derived.Shelf.Strings.Builder1
import Derived.Shelf.Strings.BuilderF
import Derived.Shelf.Strings.BuilderK
import Derived.Deep.RegionHeld3
import Derived.Deep.DeepCutAuto
/-
  Contracts of the laws' own szWriter and toWriter (written by a program of this claim's own, gen_writ.py).
-/
namespace Go.Proofs.YtjochoghmpcgdaaDoor
open Go.RowKit

def okWriter (r : Writer) : Prop := okTurner r.turner ∧ r.out.length ≤ 1048576 ∧ ∀ x, x ∈ r.out → x.length ≤ 1048576
def totWriter (r : Writer) : Nat := totTurner r.turner + (r.out.length + sumF strSz r.out)

theorem rd_WriterF {w : World} {B : Nat} {cs : List Value} {r : Writer} (h : writE.rd w B cs r) :
    ∃ v2 v3, cs = [.int .i64 r.turner.letters, .int .i64 r.turner.start, v2, v3] ∧ (-9223372036854775808 ≤ r.turner.letters ∧ r.turner.letters ≤ 9223372036854775807) ∧ (-9223372036854775808 ≤ r.turner.start ∧ r.turner.start ≤ 9223372036854775807) ∧ movessE.rd w B [v2] r.turner.moves ∧ strssE.rd w B [v3] r.out := by
  obtain ⟨v2, v3, rfl, h2, h3⟩ := rd_Writer h
  obtain ⟨v2', he, b0, b1, k2⟩ := rd_Turner h2
  obtain rfl : v2 = v2' := by simpa using he
  exact ⟨v2, v3, rfl, b0, b1, k2, h3⟩

theorem sumF_mem {α : Type} (f : α → Nat) (l : List α) (x : α) (h : x ∈ l) : f x ≤ sumF f l := by
  induction l with
  | nil => cases h
  | cons a l ih =>
    show f x ≤ f a + sumF f l
    rcases List.mem_cons.1 h with e | e
    · subst e; omega
    · have := ih e; omega

theorem ok_of_totWriter {r : Writer} (h : ¬ 1048576 < totWriter r) : okWriter r := by
  unfold totWriter at h
  refine ⟨ok_of_totTurner (by omega), by omega, fun x hx => ?_⟩
  have := sumF_mem strSz r.out x hx
  have h2 : x.length ≤ strSz x := by unfold strSz; omega
  omega

set_option maxHeartbeats 2000000 in
theorem toWriter_any (cs : List Value) (r : Writer) (B : Nat) (w : World) (hB0 : B ≤ w.heap.size) (h : writE.rd w B cs r) (hok : okWriter r) :
    Calls Tryd.prog 15 #[.agg cs.toArray] w (MakesS writE id r w) := by
  obtain ⟨v2, v3, rfl, h2, h3⟩ := rd_Writer h
  obtain ⟨v2', he, -, -, k2⟩ := rd_Turner h2
  obtain rfl : v2 = v2' := by simpa using he
  obtain ⟨a2, n2, c2, rfl⟩ := rd_slice k2
  obtain ⟨a3, n3, c3, rfl⟩ := rd_slice h3
  have H2 := Lib.hid h2
  have H3 := Lib.hid h3
  have HO := Lib.hid hok
  clear h h2 h3 k2 hok he
  have S := (((Star.nil w).alloc (cs := #[.int .i64 r.turner.letters, .int .i64 r.turner.start, .slice a2 n2 c2, .slice a3 n3 c3]) (ty := 43)).alloc (cs := #[.int .i64 0, .int .i64 0, .slice none 0 0, .slice none 0 0]) (ty := 30)).alloc (cs := #[.int .i64 0, .int .i64 0, .slice none 0 0, .slice none 0 0]) (ty := 30)
  rw [World.size_alloc, World.size_alloc] at S
  go_enter Tryd.func15, Tryd.ntmps15
  go_wp2_with fail
  generalize hW : ((w.alloc _).alloc _).alloc _ = w0 at S ⊢
  clear hW
  replace S : Star w w0 [oB (w.heap.size + 1 + 1) [.int .i64 0, .int .i64 0, .slice none 0 0, .slice none 0 0] 30, oB (w.heap.size + 1) [.int .i64 0, .int .i64 0, .slice none 0 0, .slice none 0 0] 30, oB w.heap.size [.int .i64 r.turner.letters, .int .i64 r.turner.start, .slice a2 n2 c2, .slice a3 n3 c3] 43] := S
  refine (toTurner_any _ r.turner B _ (Nat.le_trans hB0 S.below.size) (turnE.rd_of (S.below.mono hB0) H2.out) HO.out.1).mono ?_
  rintro e w1 ⟨x1, f1, rfl, o1, d1, lo1, b1⟩
  have S1 := S.made o1 d1 lo1 b1
  have o' := turnE.rd_ow o1
  obtain ⟨u2, rfl, -, -, k2⟩ := rd_Turner o'
  obtain ⟨s2, m2, p2, rfl⟩ := rd_slice k2
  clear o' k2 o1 d1 lo1 b1 S
  replace S1 := S1.sel [1, 2, 3, 0]
  have L0 := S1.blk 0 rfl
  have l0 := L0.cell 0 rfl
  have l1 := L0.cell 1 rfl
  have l2 := L0.cell 2 rfl
  have l3 := L0.cell 3 rfl
  have lf := L0.free
  have a3' := (S1.blk 2 rfl).cell 3 rfl
  have la := (S1.blk 2 rfl).lt
  go_wp2_with fail
  generalize hW : ((w1.setCell _ _).setCell _ _).setCell _ _ = w2
  have S2 : Star w w2 [oB (w.heap.size + 1 + 1) [.int .i64 r.turner.letters, .int .i64 r.turner.start, .slice s2 m2 p2, .slice none 0 0] 30, oB (w.heap.size + 1) [.int .i64 0, .int .i64 0, .slice none 0 0, .slice none 0 0] 30, oB w.heap.size [.int .i64 r.turner.letters, .int .i64 r.turner.start, .slice a2 n2 c2, .slice a3 n3 c3] 43, oE turnE [.int .i64 r.turner.letters, .int .i64 r.turner.start, .slice s2 m2 p2] r.turner] := by
    rw [← hW]
    exact ((S1.set 0 _).set 1 _).set 2 _
  clear hW L0 l0 l1 l2 l3 lf a3' la S1
  refine (toStringSS_any _ r.out B _ (Nat.le_trans hB0 S2.below.size) (strssE.rd_of (S2.below.mono hB0) H3.out) HO.out.2.1 HO.out.2.2).mono ?_
  rintro e w3 ⟨x2, f2, rfl, o2, d2, lo2, b2⟩
  obtain ⟨s3, m3, p3, rfl⟩ := ow_slice o2
  have S3 := (S2.made o2 d2 lo2 b2).sel [1, 2, 4, 0]
  clear o2 d2 lo2 b2 S2
  have L0 := S3.blk 0 rfl
  have l0 := L0.cell 0 rfl
  have l1 := L0.cell 1 rfl
  have l2 := L0.cell 2 rfl
  have l3 := L0.cell 3 rfl
  have lf := L0.free
  have R0 := S3.blk 1 rfl
  have r0 := R0.cell 0 rfl
  have r1 := R0.cell 1 rfl
  have r2 := R0.cell 2 rfl
  have r3 := R0.cell 3 rfl
  have rf := R0.free
  go_wp2
  generalize hW : ((((w3.setCell _ _).setCell _ _).setCell _ _).setCell _ _).setCell _ _ = w4
  have S4 : Star w w4 [oB (w.heap.size + 1) [.int .i64 r.turner.letters, .int .i64 r.turner.start, .slice s2 m2 p2, .slice s3 m3 p3] 30, oE turnE [.int .i64 r.turner.letters, .int .i64 r.turner.start, .slice s2 m2 p2] r.turner, oE strssE [.slice s3 m3 p3] r.out] := by
    rw [← hW]
    exact ((((((S3.set 3 _).sel [1, 2, 3]).set 0 _).set 1 _).set 2 _).set 3 _)
  have A3 := S4.blk 0 rfl
  have q0 := A3.cell 0 rfl
  have q1 := A3.cell 1 rfl
  have q2 := A3.cell 2 rfl
  have q3 := A3.cell 3 rfl
  have S5 := (S4.sel [1, 2]).pair.via (F := fun w : Writer => (w.turner, w.out)) r rfl
  obtain ⟨f9, k1, k2, k3⟩ := Star.out (E := writE) S5
  exact bodyPost_ret (v := .agg #[.int .i64 r.turner.letters, .int .i64 r.turner.start, .slice s2 m2 p2, .slice s3 m3 p3]) (by simp [results, Tryd.results15, go_sem, q0, q1, q2, q3]) rfl ⟨_, f9, rfl, k1, k2, k3, S5.below⟩

set_option maxHeartbeats 1000000 in
theorem szWriter_any (cs : List Value) (r : Writer) (B : Nat) (w : World) (left : Int) (hB0 : B ≤ w.heap.size) (h : writE.rd w B cs r) (h0 : 0 ≤ left) (h1 : left ≤ 1048576) :
    Calls Tryd.prog 13 #[.agg cs.toArray, .int .i64 left] w (Gives (.int .i64 (lim (totWriter r) left)) w) := by
  obtain ⟨v2, v3, rfl, h2, h3⟩ := rd_Writer h
  obtain ⟨v2', he, -, -, k2⟩ := rd_Turner h2
  obtain rfl : v2 = v2' := by simpa using he
  obtain ⟨a2, n2, c2, rfl⟩ := rd_slice k2
  obtain ⟨a3, n3, c3, rfl⟩ := rd_slice h3
  have H2 := Lib.hid h2
  have H3 := Lib.hid h3
  have HT : Hid (totWriter r = totTurner r.turner + (r.out.length + sumF strSz r.out)) := Lib.hid rfl
  clear h h2 h3 k2 he
  have S := (Star.nil w).alloc (cs := #[.int .i64 r.turner.letters, .int .i64 r.turner.start, .slice a2 n2 c2, .slice a3 n3 c3]) (ty := 43)
  go_enter Tryd.func13, Tryd.ntmps13
  go_wp2_with fail
  generalize hW : w.alloc _ = w0 at S ⊢
  clear hW
  replace S : Star w w0 [oB w.heap.size [.int .i64 r.turner.letters, .int .i64 r.turner.start, .slice a2 n2 c2, .slice a3 n3 c3] 43] := S
  refine (szTurner_any _ r.turner B _ left (Nat.le_trans hB0 S.below.size) (turnE.rd_of (S.below.mono hB0) H2.out) h0 h1).mono ?_
  rintro e w1 ⟨rfl, b⟩
  replace S := S.step b
  clear b
  obtain ⟨t1, ht1⟩ : ∃ t, t = totTurner r.turner := ⟨_, rfl⟩
  rw [← ht1] at HT ⊢
  obtain ⟨t2, ht2⟩ : ∃ t, t = r.out.length + sumF strSz r.out := ⟨_, rfl⟩
  rw [← ht2] at HT
  have HT2 := Lib.hid ht2
  clear ht1 ht2
  by_cases hx : left < t1
  · rw [lim_of_lt hx]
    have hr := Lib.hid (lim_of_lt (t := totWriter r) (left := left) (by have := HT.out; omega))
    go_wp2
    go_ret
    exact ⟨by rw [hr.out]; rfl, S.below⟩
  rw [lim_of_ge hx]
  obtain ⟨q, hq⟩ : ∃ q : Int, q = left - (t1 : Int) := ⟨_, rfl⟩
  rw [← hq]
  have hn : ¬ q < 0 := by omega
  have g1 : 0 ≤ q := by omega
  have g2 : q ≤ 1048576 := by omega
  have HQ := Lib.hid hq; clear hq
  have a3' := (S.blk 0 rfl).cell 3 rfl
  go_wp2_with fail
  refine (szStringSS_any _ r.out B _ q (Nat.le_trans hB0 S.below.size) (strssE.rd_of (S.below.mono hB0) H3.out) g1 g2).mono ?_
  rintro e w2 ⟨rfl, b⟩
  replace S := S.step b
  rw [← HT2.out]
  clear b a3'
  by_cases hy : q < t2
  · rw [lim_of_lt hy]
    have hr := Lib.hid (lim_of_lt (t := totWriter r) (left := left) (by have := HT.out; have := HQ.out; omega))
    go_wp2
    go_ret
    exact ⟨by rw [hr.out]; rfl, S.below⟩
  rw [lim_of_ge hy]
  have hr := Lib.hid (lim_of_ge (t := totWriter r) (left := left) (by have := HT.out; have := HQ.out; omega))
  have hh : ¬ q - (t2 : Int) < 0 := by omega
  have he := Lib.hid (show q - (t2 : Int) = left - (totWriter r : Int) by have := HT.out; have := HQ.out; omega)
  go_wp2
  go_ret
  exact ⟨by rw [hr.out, ← he.out]; rfl, S.below⟩

end Go.Proofs.YtjochoghmpcgdaaDoor

/-
  ValidWriter of the program: what it answers.
-/
namespace Go.Proofs.YtjochoghmpcgdaaDoor
open Go.RowKit

def orowOk (row : List ByteArray) (n : Nat) : Bool := decide (row.length = n) && row.all outOk
def writerOk (r : Writer) : Bool := validTurn r.turner && (decide (r.out.length = r.turner.moves.length) && (List.range r.turner.moves.length).all fun s => orowOk (r.out[s]?.getD default) (r.turner.moves[s]?.getD default).length)

theorem validTurn_is (b : Bool) (cs : List Value) (p : Turner) (B : Nat) (w : World) (hB0 : B ≤ w.heap.size) (h : turnE.rd w B cs p) (hb : validTurn p = b) :
    Calls Tryd.prog 44 #[.agg cs.toArray] w (Gives (.bool b) w) := hb ▸ validTurn_any cs p B w hB0 h

set_option maxRecDepth 100000 in
theorem containsOut_is (b : Bool) (v : Value) (l : List ByteArray) (B : Nat) (w : World) (hB0 : B ≤ w.heap.size) (h : strsE.rd w B [v] l) (hb : (l.any fun t => !outOk t) = b) :
    Calls Tryd.prog 45 #[v, .func (.func 46) #[] #[]] w (Gives (.bool b) w) := by
  subst hb
  refine containsFunc_strs v l B w _ #[] #[] _ hB0 h ?_ ?_
  · intro args w1
    rfl
  · intro vk z w1 _ hz
    obtain ⟨hv, hs⟩ := hz
    obtain rfl : vk = .string z := by simpa using hv
    exact notOut_any z w1 hs

theorem any_out (l : List ByteArray) : (l.any fun t => !outOk t) = !l.all outOk := by
  induction l with
  | nil => rfl
  | cons a l ih => rw [List.any_cons, List.all_cons, ih]; cases outOk a <;> rfl

set_option maxHeartbeats 2000000 in
theorem validWriter_any (cs : List Value) (r : Writer) (B : Nat) (w : World) (hB0 : B ≤ w.heap.size) (h : writE.rd w B cs r) :
    Calls Tryd.prog 20 #[.agg cs.toArray] w (Gives (.bool (writerOk r)) w) := by
  obtain ⟨v2, v3, rfl, h2, h3⟩ := rd_Writer h
  obtain ⟨v2', he, -, -, k2⟩ := rd_Turner h2
  obtain rfl : v2 = v2' := by simpa using he
  obtain ⟨a, cap, rfl, a1, a2, -, a4⟩ := rd_slice1 rfl k2
  obtain ⟨b, bcap, rfl, b1, b2, -, b4⟩ := rd_slice1 rfl h3
  have H2 := Lib.hid h2
  clear h he k2 h3 h2
  have A4 := Lib.hid a4; clear a4
  have B4 := Lib.hid b4; clear b4
  cases hv : validTurn r.turner
  · have HV := Lib.hid hv; clear hv
    have hno : writerOk r = false := by unfold writerOk; rw [HV.out]; rfl
    rw [hno]
    go_enter Tryd.func20, Tryd.ntmps20
    go_wp2_with fail
    generalize hW : w.alloc _ = w0
    obtain ⟨A0, hB⟩ := blk1 hW
    clear hW
    refine (validTurn_is false _ r.turner B _ (Nat.le_trans hB0 hB.size) (turnE.rd_of (hB.mono hB0) H2.out) HV.out).mono ?_
    rintro e w1 ⟨rfl, b9⟩
    go_wp2
    go_ret
    exact ⟨rfl, hB.trans (b9.mono hB.size)⟩
  have HV := Lib.hid hv; clear hv
  obtain ⟨n, hn⟩ : ∃ n, n = r.turner.moves.length := ⟨_, rfl⟩
  obtain ⟨m, hm⟩ : ∃ n, n = r.out.length := ⟨_, rfl⟩
  rw [← hn] at A4 H2 a1 ⊢
  rw [← hm] at B4 b1 ⊢
  have HN := Lib.hid hn; clear hn
  have HM := Lib.hid hm; clear hm
  have HR : Hid (writerOk r = (decide (m = n) && (List.range n).all fun s => orowOk (r.out[s]?.getD default) (r.turner.moves[s]?.getD default).length)) := Lib.hid (by unfold writerOk; rw [HV.out, HN.out, HM.out]; rfl)
  obtain ⟨res, hres⟩ : ∃ x, x = writerOk r := ⟨_, rfl⟩
  rw [← hres]
  have HRES := Lib.hid (hres.trans HR.out); clear hres HR
  by_cases hmn : m = n
  case neg =>
    have hno : res = false := by rw [HRES.out, decide_eq_false hmn]; rfl
    have hb1 : ((m : Int) != (n : Int)) = true := by simp; omega
    rw [hno]
    go_enter Tryd.func20, Tryd.ntmps20
    go_wp2_with fail
    generalize hW : w.alloc _ = w0
    obtain ⟨A0, hB⟩ := blk1 hW
    clear hW
    refine (validTurn_is true _ r.turner B _ (Nat.le_trans hB0 hB.size) (turnE.rd_of (hB.mono hB0) H2.out) HV.out).mono ?_
    rintro e w1 ⟨rfl, b9⟩
    have A0 := A0.of b9 A0.lt
    have c2 := A0.cell 2 rfl
    have c3 := A0.cell 3 rfl
    go_wp2
    go_ret
    exact ⟨rfl, hB.trans (b9.mono hB.size)⟩
  subst hmn
  have hres : Hid (res = (List.range m).all fun s => orowOk (r.out[s]?.getD default) (r.turner.moves[s]?.getD default).length) := Lib.hid (by rw [HRES.out, decide_eq_true rfl, Bool.true_and])
  clear HRES
  have hb1 : ((m : Int) != (m : Int)) = false := by simp
  go_enter Tryd.func20, Tryd.ntmps20
  go_wp2_with fail
  generalize hW : w.alloc _ = w0
  obtain ⟨A0, hB⟩ := blk1 hW
  clear hW
  refine (validTurn_is true _ r.turner B _ (Nat.le_trans hB0 hB.size) (turnE.rd_of (hB.mono hB0) H2.out) HV.out).mono ?_
  rintro e w1 ⟨rfl, b9⟩
  have HB := Lib.hid (hB.trans (b9.mono hB.size))
  have HA := Lib.hid (A0.of b9 A0.lt)
  clear A0 b9 hB
  have c2 := HA.out.cell 2 rfl
  have c3 := HA.out.cell 3 rfl
  go_wp2
  clear c2 c3
  go_loopw [22] (fun i wr => ∃ k : Nat, k ≤ m ∧ i = .int .i64 k ∧ Below w.heap.size w wr ∧ Blk wr w.heap.size [.int .i64 r.turner.letters, .int .i64 r.turner.start, .slice a m cap, .slice b m bcap] 30 ∧ Hid (∀ i, i < k → orowOk (r.out[i]?.getD default) (r.turner.moves[i]?.getD default).length = true)) (fun i _ => m - (intOf i).toNat)
  case atStart => exact ⟨0, by omega, rfl, HB.out, HA.out, Lib.hid (fun i hi => absurd hi (by omega))⟩
  case round =>
    obtain ⟨k, hk, rfl, hB, hA, HE⟩ := hrel
    by_cases hlt : k < m
    case neg =>
      obtain rfl : k = m := by omega
      have hyes : res = true := by rw [hres.out]; exact range_all (fun i hi => HE.out i hi)
      go_wp2
      go_ret
      exact ⟨by rw [hyes]; rfl, hB⟩
    obtain ⟨p, o, vk, rfl, -, hc, hr⟩ := A4.out k hlt
    obtain ⟨p2, o2, vk2, rfl, -, hc2, hr2⟩ := B4.out k hlt
    have g1 := (hB.cell (World.block_lt_of_cell? w _ hc)).trans hc
    have g2 := (hB.cell (World.block_lt_of_cell? w _ hc2)).trans hc2
    have R2 := Lib.hid (strsE.rd_of (hB.mono hB0) hr2)
    obtain ⟨sa, sc, rfl, s1, s2, -, -⟩ := rd_movesE hr
    obtain ⟨ta, tc, rfl, t1, t2, -, -⟩ := rd_strs hr2
    clear hc hc2 hr hr2
    obtain ⟨x, hx⟩ : ∃ x, x = (r.turner.moves[k]?.getD default).length := ⟨_, rfl⟩
    obtain ⟨row, hrow⟩ : ∃ x, x = r.out[k]?.getD default := ⟨_, rfl⟩
    rw [← hx] at g1 s1
    rw [← hrow] at R2 g2 t1
    have HX := Lib.hid hx; clear hx
    have HROW := Lib.hid hrow; clear hrow
    have c2 := hA.cell 2 rfl
    have HA' := Lib.hid hA; have la := hA.lt; clear hA
    have HBr := Lib.hid hB; clear hB
    obtain ⟨y, hy⟩ : ∃ x, x = row.length := ⟨_, rfl⟩
    rw [← hy] at R2 g2 t1
    have HY := Lib.hid hy; clear hy
    by_cases hlen : y = x
    case neg =>
      have hb2 : ((y : Int) != (x : Int)) = true := by simp; omega
      have hno : Hid (res = false) := Lib.hid (by rw [hres.out]; exact range_not hlt (by unfold orowOk; rw [← HROW.out, ← HX.out, decide_eq_false (by rw [← HY.out]; exact hlen)]; rfl))
      clear hlen
      go_wp2
      go_ret
      exact ⟨by rw [hno.out]; rfl, HBr.out⟩
    subst hlen
    have hb2 : ((y : Int) != (y : Int)) = false := by simp
    cases hok : row.all outOk
    · have HOK : Hid ((row.any fun t => !outOk t) = true) := Lib.hid (by rw [any_out, hok]; rfl)
      have hno : Hid (res = false) := Lib.hid (by rw [hres.out]; exact range_not hlt (by unfold orowOk; rw [← HROW.out, hok, Bool.and_false]))
      clear hok
      go_wp2_with fail
      refine (containsOut_is true _ row B _ (Nat.le_trans hB0 HBr.out.size) R2.out HOK.out).mono ?_
      rintro e w5 ⟨rfl, b5⟩
      go_wp2
      go_ret
      exact ⟨by rw [hno.out]; rfl, HBr.out.trans (b5.mono HBr.out.size)⟩
    · have HOK : Hid ((row.any fun t => !outOk t) = false) := Lib.hid (by rw [any_out, hok]; rfl)
      have hyes : Hid (orowOk (r.out[k]?.getD default) (r.turner.moves[k]?.getD default).length = true) := Lib.hid (by unfold orowOk; rw [← HROW.out, ← HX.out, hok, decide_eq_true HY.out.symm]; rfl)
      clear hok
      go_wp2_with fail
      refine (containsOut_is false _ row B _ (Nat.le_trans hB0 HBr.out.size) R2.out HOK.out).mono ?_
      rintro e w5 ⟨rfl, b5⟩
      go_wp2
      go_roundw
      case rel => exact ⟨k + 1, by omega, by go_num, HBr.out.trans (b5.mono HBr.out.size), HA'.out.of b5 la, Lib.hid (fun i hi => by by_cases h : i = k; (subst h; exact hyes.out); exact HE.out i (by omega))⟩
      case measure => simp [intOf]; omega

end Go.Proofs.YtjochoghmpcgdaaDoor

/-
  What right turners and writers hold (written by a program of this claim's own, gen_text.py).
-/
namespace Go.Proofs.YtjochoghmpcgdaaDoor
open Go.RowKit

/-- What a right move holds. -/
def mvOk (m : Move) : Prop := m.to = -1 ∨ m.to = -2 ∨ ((0 ≤ m.to ∧ m.to ≤ 99) ∧ (-1 ≤ m.dir ∧ m.dir ≤ 1))

theorem mvOk_of {m : Move} {n l k : Int} (h : moveOk m n l k = true) (hn : n ≤ 99) : mvOk m := by
  unfold moveOk at h
  rw [Bool.or_eq_true] at h
  rcases h with h | h
  · unfold isStopB at h
    rw [Bool.and_eq_true, Bool.or_eq_true, beq_iff_eq, beq_iff_eq] at h
    rcases h.1 with h | h
    · exact .inl h
    · exact .inr (.inl h)
  · rw [Bool.and_eq_true, Bool.and_eq_true, Bool.and_eq_true] at h
    have h1 := within_true.1 h.1.1.1
    have h2 := within_true.1 h.1.1.2
    exact .inr (.inr ⟨⟨by omega, by omega⟩, h2⟩)

structure TurnOk (t : Turner) : Prop where
  l1 : 1 ≤ t.letters
  l3 : t.letters ≤ 3
  n1 : 1 ≤ t.moves.length
  n12 : t.moves.length ≤ 12
  s0 : 0 ≤ t.start
  s1 : t.start < t.moves.length
  row : ∀ x, x ∈ t.moves → (x.length : Int) = t.letters + 2 ∧ ∀ k, k < x.length → moveOk (x[k]?.getD default) t.moves.length t.letters k = true

theorem turnOk_of {t : Turner} (h : validTurn t = true) : TurnOk t := by
  unfold validTurn at h
  rw [Bool.and_eq_true, Bool.and_eq_true, Bool.and_eq_true] at h
  have h1 := within_true.1 h.1
  have h2 := within_true.1 h.2.1
  have h3 := within_true.1 h.2.2.1
  refine ⟨h1.1, h1.2, by omega, by omega, h3.1, by omega, fun x hx => ?_⟩
  have h4 := List.all_eq_true.1 h.2.2.2 x hx
  unfold mrowOk at h4
  rw [Bool.and_eq_true, decide_eq_true_eq] at h4
  exact ⟨h4.1, fun k hk => List.all_eq_true.1 h4.2 k (List.mem_range.2 hk)⟩

theorem TurnOk.len {t : Turner} (K : TurnOk t) {x : List Move} (hx : x ∈ t.moves) : x.length ≤ 5 := by
  have := (K.row x hx).1; have := K.l3; omega

theorem TurnOk.mv {t : Turner} (K : TurnOk t) {x : List Move} (hx : x ∈ t.moves) {k : Nat} (hk : k < x.length) : mvOk (x[k]?.getD default) :=
  mvOk_of ((K.row x hx).2 k hk) (by have := K.n12; omega)

theorem mem_getD {α : Type} [Inhabited α] {l : List α} {k : Nat} (h : k < l.length) : l[k]?.getD default ∈ l := by
  rw [List.getElem?_eq_getElem h]; exact List.getElem_mem h

theorem getD_of_mem {α : Type} [Inhabited α] {l : List α} {x : α} (h : x ∈ l) : ∃ k, k < l.length ∧ l[k]?.getD default = x := by
  obtain ⟨k, hk, he⟩ := List.getElem_of_mem h
  exact ⟨k, hk, by rw [List.getElem?_eq_getElem hk]; exact he⟩

structure WritOk (r : Writer) : Prop where
  t : TurnOk r.turner
  v : validTurn r.turner = true
  n : r.out.length = r.turner.moves.length
  row : ∀ s, s < r.out.length → (r.out[s]?.getD default).length = (r.turner.moves[s]?.getD default).length ∧ ∀ x, x ∈ r.out[s]?.getD default → outOk x = true

theorem writOk_of {r : Writer} (h : writerOk r = true) : WritOk r := by
  unfold writerOk at h
  rw [Bool.and_eq_true, Bool.and_eq_true, decide_eq_true_eq] at h
  refine ⟨turnOk_of h.1, h.1, h.2.1, fun s hs => ?_⟩
  have h4 := List.all_eq_true.1 h.2.2 s (List.mem_range.2 (by omega))
  unfold orowOk at h4
  rw [Bool.and_eq_true, decide_eq_true_eq] at h4
  exact ⟨h4.1, fun x hx => List.all_eq_true.1 h4.2 x hx⟩

theorem out_size {x : ByteArray} (h : outOk x = true) : x.size ≤ 3 := by
  unfold outOk at h
  rw [Bool.and_eq_true, decide_eq_true_eq] at h
  exact h.1

theorem WritOk.len {r : Writer} (K : WritOk r) {x : List ByteArray} (hx : x ∈ r.out) : x.length ≤ 5 := by
  obtain ⟨s, hs, rfl⟩ := getD_of_mem hx
  rw [(K.row s hs).1]
  exact K.t.len (mem_getD (by rw [← K.n]; exact hs))

theorem WritOk.sz {r : Writer} (K : WritOk r) {x : List ByteArray} (hx : x ∈ r.out) {y : ByteArray} (hy : y ∈ x) : y.size ≤ 3 := by
  obtain ⟨s, hs, rfl⟩ := getD_of_mem hx
  exact out_size ((K.row s hs).2 y hy)

end Go.Proofs.YtjochoghmpcgdaaDoor

/-
  Runs of a turner, what a writer writes on a word, and all words in order, in plain words.
-/
namespace Go.Proofs.YtjochoghmpcgdaaDoor
open Go.RowKit

abbrev Pl := Nat × Nat

/-- The index of the letter or mark in a cell. -/
def belowN (c : Nat) (x : List UInt8) (at_ : Nat) : Nat := if at_ = 0 then c else if x.length < at_ then c + 1 else (x[at_ - 1]?.getD 97).toNat - 97
def moveAt (t : Turner) (x : List UInt8) (p : Pl) : Move := (t.moves[p.1]?.getD default)[belowN t.letters.toNat x p.2]?.getD default
def runGo (t : Turner) (x : List UInt8) : Nat → List Pl → Pl → List Pl × Int
  | 0, out, _ => (out, 3)
  | f + 1, out, p => if out.contains p then (out, 3) else
      if (moveAt t x p).to < 0 then (out ++ [p], if (moveAt t x p).to = -1 then 1 else 2)
      else runGo t x f (out ++ [p]) ((moveAt t x p).to.toNat, (p.2 + (moveAt t x p).dir).toNat)
def placesN (t : Turner) (x : List UInt8) : Nat := t.moves.length * (x.length + 2)
def runT (t : Turner) (x : List UInt8) : List Pl × Int := runGo t x (placesN t x + 1) [] (t.start.toNat, 0)

def wordOk (c : Nat) (x : List UInt8) : Prop := ∀ b, b ∈ x → 97 ≤ b.toNat ∧ b.toNat < 97 + c

/-- Places of a word, each once. -/
structure InvR (n m : Nat) (out : List Pl) : Prop where
  lt : ∀ p, p ∈ out → p.1 < n ∧ p.2 < m
  nd : out.Nodup

theorem nodup_leR : ∀ (N : Nat) (l : List Nat), l.Nodup → (∀ x, x ∈ l → x < N) → l.length ≤ N
  | 0, [], _, _ => Nat.le_refl _
  | 0, a :: l, _, h => absurd (h a (by simp)) (by omega)
  | N + 1, l, nd, h => by
    by_cases hm : N ∈ l
    · have h1 := nodup_leR N (l.erase N) (nd.erase N) (fun x hx => by
        have h2 := (nd.mem_erase_iff).1 hx
        have h3 := h x h2.2
        have h4 := h2.1
        omega)
      rw [List.length_erase_of_mem hm] at h1
      omega
    · have h1 := nodup_leR N l nd (fun x hx => by
        have h2 := h x hx
        have h3 : x ≠ N := fun e => hm (e ▸ hx)
        omega)
      omega

theorem InvR.len {n m : Nat} {out : List Pl} (h : InvR n m out) : out.length ≤ n * m := by
  have h1 := nodup_leR (n * m) (out.map fun x => x.1 * m + x.2) ?_ ?_
  · rwa [List.length_map] at h1
  · unfold List.Nodup
    rw [List.pairwise_map]
    refine (List.pairwise_iff_forall_sublist.2 ?_)
    intro x y hs
    have hne := List.pairwise_iff_forall_sublist.1 h.nd hs
    have hx := h.lt x (hs.subset (by simp))
    have hy := h.lt y (hs.subset (by simp))
    intro e
    apply hne
    have hn : 0 < m := by omega
    have e1 : (x.1 * m + x.2) / m = (y.1 * m + y.2) / m := by rw [e]
    have e2 : (x.1 * m + x.2) % m = (y.1 * m + y.2) % m := by rw [e]
    rw [Nat.mul_comm, Nat.mul_add_div hn, Nat.mul_comm, Nat.mul_add_div hn, Nat.div_eq_of_lt hx.2, Nat.div_eq_of_lt hy.2] at e1
    rw [Nat.mul_comm, Nat.mul_add_mod, Nat.mul_comm, Nat.mul_add_mod, Nat.mod_eq_of_lt hx.2, Nat.mod_eq_of_lt hy.2] at e2
    exact Prod.ext (by omega) e2
  · intro x hx
    obtain ⟨y, hy, rfl⟩ := List.mem_map.1 hx
    have h1 := h.lt y hy
    have h2 : y.1 * m + m ≤ n * m := by
      have := Nat.mul_le_mul_right m (show y.1 + 1 ≤ n by omega)
      rw [Nat.add_mul] at this
      omega
    omega

theorem InvR.snoc {n m : Nat} {out : List Pl} (h : InvR n m out) {p : Pl} (hp : p.1 < n ∧ p.2 < m) (hc : out.contains p = false) : InvR n m (out ++ [p]) := by
  have hm : p ∉ out := by simpa using hc
  refine ⟨fun q hq => ?_, ?_⟩
  · rcases List.mem_append.1 hq with hq | hq
    · exact h.lt q hq
    · rw [List.mem_singleton.1 hq]; exact hp
  · rw [List.nodup_append]
    exact ⟨h.nd, by simp, fun a ha b hb => by rw [List.mem_singleton.1 hb]; exact fun e => hm (e ▸ ha)⟩

theorem belowN_lt {c : Nat} {x : List UInt8} (hx : wordOk c x) (a : Nat) : belowN c x a < c + 2 := by
  unfold belowN
  split
  · omega
  · split
    · omega
    · have h : a - 1 < x.length := by omega
      have := hx _ (List.getElem_mem h)
      rw [List.getElem?_eq_getElem h, Option.getD_some]
      omega

/-- Where a move that does not stop leads. -/
theorem move_next {t : Turner} (K : TurnOk t) {x : List UInt8} (hx : wordOk t.letters.toNat x) {p : Pl} (hp : p.1 < t.moves.length ∧ p.2 < x.length + 2) (hm : ¬ (moveAt t x p).to < 0) :
    ((moveAt t x p).to.toNat < t.moves.length ∧ ((p.2 : Int) + (moveAt t x p).dir).toNat < x.length + 2) ∧ 0 ≤ (p.2 : Int) + (moveAt t x p).dir := by
  have hmem : t.moves[p.1]?.getD default ∈ t.moves := by rw [List.getElem?_eq_getElem hp.1]; exact List.getElem_mem _
  obtain ⟨h1, h2⟩ := K.row _ hmem
  have hb := belowN_lt hx p.2
  have h3 := h2 (belowN t.letters.toNat x p.2) (by have := K.l1; omega)
  have e : moveAt t x p = (t.moves[p.1]?.getD default)[belowN t.letters.toNat x p.2]?.getD default := rfl
  rw [← e] at h3
  unfold moveOk at h3
  rw [Bool.or_eq_true] at h3
  rcases h3 with h3 | h3
  · unfold isStopB at h3
    rw [Bool.and_eq_true, Bool.or_eq_true, beq_iff_eq, beq_iff_eq] at h3
    rcases h3.1 with h4 | h4 <;> omega
  · simp only [Bool.and_eq_true, Bool.not_eq_true', Bool.and_eq_false_iff, beq_eq_false_iff_ne] at h3
    obtain ⟨⟨⟨h4, h5⟩, h6⟩, h7⟩ := h3
    have h4 := within_true.1 h4
    have h5 := within_true.1 h5
    have l1 := K.l1
    unfold belowN at h6 h7
    by_cases ha : p.2 = 0
    · simp only [if_pos ha] at h6 h7
      have h8 : (moveAt t x p).dir ≠ -1 := by rcases h6 with h | h <;> omega
      omega
    · simp only [if_neg ha] at h6 h7
      by_cases hb : x.length < p.2
      · simp only [if_pos hb] at h6 h7
        have h8 : (moveAt t x p).dir ≠ 1 := by rcases h7 with h | h <;> omega
        omega
      · omega

/-- A stop takes or refuses. -/
theorem move_stop {t : Turner} (K : TurnOk t) {x : List UInt8} (hx : wordOk t.letters.toNat x) {p : Pl} (hp : p.1 < t.moves.length) (hm : (moveAt t x p).to < 0) : (moveAt t x p).to = -1 ∨ (moveAt t x p).to = -2 := by
  have hmem : t.moves[p.1]?.getD default ∈ t.moves := by rw [List.getElem?_eq_getElem hp]; exact List.getElem_mem _
  obtain ⟨h1, h2⟩ := K.row _ hmem
  have hb := belowN_lt hx p.2
  have h3 := h2 (belowN t.letters.toNat x p.2) (by have := K.l1; omega)
  have e : moveAt t x p = (t.moves[p.1]?.getD default)[belowN t.letters.toNat x p.2]?.getD default := rfl
  rw [← e] at h3
  unfold moveOk at h3
  rw [Bool.or_eq_true] at h3
  rcases h3 with h3 | h3
  · unfold isStopB at h3
    rw [Bool.and_eq_true, Bool.or_eq_true, beq_iff_eq, beq_iff_eq] at h3
    exact h3.1
  · simp only [Bool.and_eq_true] at h3
    have h4 := within_true.1 h3.1.1.1
    omega

/-- What is written at a place. -/
def outAt (w : Writer) (x : List UInt8) (p : Pl) : ByteArray := (w.out[p.1]?.getD default)[belowN w.turner.letters.toNat x p.2]?.getD ByteArray.empty
def textOf (w : Writer) (x : List UInt8) (run : List Pl) : ByteArray := run.foldl (fun b p => b ++ outAt w x p) ⟨#[]⟩
/-- What a writer writes on a word, and the code. -/
def writtenT (w : Writer) (x : List UInt8) : ByteArray × Int :=
  if (runT w.turner x).2 = 1 then (if 2000 < (textOf w x (runT w.turner x).1).size then (⟨#[]⟩, 3) else (textOf w x (runT w.turner x).1, 0)) else (⟨#[]⟩, 4)

/-- All words of a length, in order. -/
def wordsN (c : Nat) : Nat → List (List UInt8)
  | 0 => [[]]
  | n + 1 => (wordsN c n).flatMap fun w => (List.range c).map fun a => w ++ [UInt8.ofNat (97 + a)]

end Go.Proofs.YtjochoghmpcgdaaDoor

/-
  Plain lemmas: append of a whole slice of one's own; blocks of several cells an element; copy of such blocks. No program function is named here.
-/
namespace Go.Proofs.YtjochoghmpcgdaaDoor
open Go.RowKit

theorem srcS_own {α : Type} {E : Enc α} {ty : TypeId} {w : World} {v : Value} {l : List α} {f : List Nat} (h1 : ∀ w x cs f, E.ow w cs x f → ∀ u, u ∈ cs → u.oneCell' = true) (o : (sliceE E ty).ow w [v] l f) :
    ∃ css fys, OwAll E w l css fys ∧ SrcS w E.size v l.length css.flatten ∧ f = v.ownBlock.toList ++ fys.flatten := by
  obtain ⟨v', xss, fps, hv, a1, a2, rfl⟩ := o
  obtain rfl : v = v' := by simpa using hv
  have hone : ∀ u, u ∈ xss.flatten → u.oneCell' = true := by
    clear a2 hv
    induction a1 with
    | nil => intro u hu; simp at hu
    | cons b1 b2 ih =>
      intro u hu
      rw [List.flatten_cons] at hu
      rcases List.mem_append.1 hu with h | h
      · exact h1 _ _ _ _ b1 u h
      · exact ih u h
  refine ⟨xss, fps, a1, ?_, rfl⟩
  have hfl := a1.flat
  obtain ⟨-, a2⟩ := a2
  rcases a2 with ⟨rfl, hn⟩ | ⟨g, cap, cur, rfl, hg, hh, hc, hm, hs, ht⟩
  · refine .inl ⟨0, rfl, hn, ?_⟩
    rw [hn, Nat.zero_mul] at hfl
    exact List.eq_nil_of_length_eq_zero hfl
  · refine .inr ⟨⟨g, 0, none⟩, cap, rfl, hfl, fun j u hu => ?_, hone⟩
    rw [← ht, List.getElem?_take] at hu
    split at hu
    · rw [Addr.add_lit]
      simpa [World.cell?, hh] using hu
    · cases hu

theorem one_ints_ow : ∀ (w : World) (x : List Int) (cs : List Value) (f : List Nat), intsE.ow w cs x f → ∀ u, u ∈ cs → u.oneCell' = true := by
  intro w x cs f h u hu
  obtain ⟨v, rfl⟩ := one_of (Enc.rd_len _ (Enc.rd_ow _ h))
  obtain ⟨sa, sn, sc, rfl⟩ := ow_slice h
  have : u = .slice sa sn sc := by simpa using hu
  subst this; rfl

theorem flatMap_len' {α : Type} (c : α → List Value) (s : Nat) (l : List α) (hc : ∀ x, x ∈ l → (c x).length = s) : (l.flatMap c).length = l.length * s := by
  induction l with
  | nil => simp
  | cons a l ih => rw [List.flatMap_cons, List.length_append, ih (fun x hx => hc x (by simp [hx])), hc a (by simp), List.length_cons, Nat.succ_mul]; omega

section
variable {w0 w w' : World} {ps : List Ob}
/-- A block that a copy has written into. -/
theorem Star.row {b : Nat} {cs : List Value} {ty : TypeId} (S : Star w0 w (oB b cs ty :: ps)) (cs' : List Value) : Star w0 (w.setRow b cs'.toArray) (oB b cs' ty :: ps) :=
  S.upd fun f hf _ hl => by
    obtain ⟨hb, rfl⟩ := hf
    refine ⟨[b], ⟨setRow_heap w b _ _ ty _ hb, rfl⟩, by simp, fun b hb => .inl hb, fun b hb => by simpa [World.setRow] using hl b hb, ⟨rfl, rfl, rfl, by simp [World.setRow], fun k hk hn => ?_⟩⟩
    exact setRow_other w b k cs'.toArray (fun e => hn (by simp [e]))

/-- A slice of one element that has just been made itself. -/
theorem Star.lit1 {α : Type} {E : Enc α} {ty : TypeId} {g : Nat} {v : Value} {y : α} (S : Star w0 w (oB g [v] ty :: oE E [v] y :: ps)) (hE : E.size = 1) : Star w0 w (oE (sliceE E ty) [.slice (some ⟨g, 0, none⟩) 1 1] [y] :: ps) :=
  S.join fun f h hf hh => by
    obtain ⟨hb, rfl⟩ := hf
    refine ⟨_, [[v]], [h], rfl, OwAll.one hh, ?_, by simp [Value.ownBlock]⟩
    exact ⟨by simp [hE], .inr ⟨g, 1, #[v], rfl, Nat.zero_le _, hb, by simp, by simp [maxLen], by simp [hE], by simp [hE]⟩⟩

theorem Star.slcN (S : Star w0 w ps) (n : Nat) {α : Type} {E : Enc α} {t : TypeId} {v : Value} {a : List α} (h : ps[n]? = some (oE (sliceE E t) [v] a)) : ∃ sa sc, v = .slice sa a.length sc := by
  obtain ⟨f, o⟩ := S.own n h
  obtain ⟨sa, sc, hv, -⟩ := Enc.rd_ow _ o
  exact ⟨sa, sc, by simpa using hv⟩

/-- What has just been written into a block, as a slice whose elements are several cells. -/
theorem Star.lits {α : Type} {E : Enc α} {ty : TypeId} {g : Nat} {vs : List Value} (S : Star w0 w (oB g vs ty :: ps)) (l : List α) (c : α → List Value) (n : Nat) (hn : l.length = n) (hv : vs = l.flatMap c) (hf : ∀ x, x ∈ l → E.ow w (c x) x []) (hl : n ≤ maxLen) :
    Star w0 w (oE (sliceE E ty) [.slice (some ⟨g, 0, none⟩) n n] l :: ps) :=
  S.upd fun q hq _ hlt => by
    subst hn hv
    obtain ⟨hb, rfl⟩ := hq
    have key := flatMap_len' c E.size l (fun x hx => Enc.rd_len _ (Enc.rd_ow _ (hf x hx)))
    refine ⟨[g], ?_, by simp, fun b hb => .inl hb, hlt, But.refl _ _⟩
    exact ow_flats (base := 0) c hf ⟨by rw [key], .inr ⟨g, l.length, (l.flatMap c).toArray, rfl, Nat.zero_le _, hb, Nat.le_refl _, hl, by simp [key], by rw [List.take_of_length_le] <;> simp [key]⟩⟩
end

theorem run_copy_wide {P : Program} (w : World) (dT sT ty elem : TypeId) (g o dLen dCap : Nat) (a : Addr) (sLen sCap size : Nat) (cur : Array Value) (t : TypeId) (cs : List Value)
    (hu : P.underlying dT = some (.slice elem)) (hs : (P.info? elem).map (·.size) = some size)
    (hg : w.heap[g]? = some (.cells cur t (0, 0))) (hn : cs.length = Nat.min sLen dLen * size)
    (hsrc : ∀ j v, cs[j]? = some v → w.cell? (a.add j) = some v) (hfit : o + cs.length ≤ cur.size) (h1 : ∀ v ∈ cs, v.oneCell' = true) :
    (Builtin.copy_ #[dT, sT] ty #[.slice (some ⟨g, o, none⟩) dLen dCap, .slice (some a) sLen sCap]).run P w =
      .ok (goInt (Nat.min sLen dLen)) (w.setRow g (cur.toList.take o ++ cs ++ cur.toList.drop (o + cs.length)).toArray) := by
  have hl := run_loadCells_list (P := P) w a cs hsrc
  have hst := run_storeCells_at P g o t cs 0 cur w hg (by simpa using hfit) h1
  cases hq : P.info? elem with
  | none => simp [hq] at hs
  | some i =>
    have hi : i.size = size := by simpa [hq] using hs
    simp [Builtin.copy_, run_underlying hu, Builtin.lenOf, Builtin.firstCells, sizeOf, typeInfo, hq, hi, ← hn, hl, hst]

theorem wpList_copy_wide {P : Program} {w : World} {ops : Array Oper} {rest : List Oper} {o : Oper} {a : Act} {Q : Exit → Act → World → Prop} (hgd : o.guard = none) (d s : Operand) (dT sT : TypeId)
    (ho : o.op = .call { callee := .builtin .copy, args := #[d, s], argTypes := #[dT, sT] }) (elem : TypeId) (size : Nat) (hu : P.underlying dT = some (.slice elem)) (hsz : (P.info? elem).map (·.size) = some size)
    (g off dLen dCap : Nat) (ad : Addr) (sLen sCap : Nat) (hd : a.eval d = .slice (some ⟨g, off, none⟩) dLen dCap) (hs : a.eval s = .slice (some ad) sLen sCap)
    (cur : List Value) (t : TypeId) (hg : Blk w g cur t) (cs : List Value) (m : Nat) (hm : m = Nat.min sLen dLen) (hn : cs.length = m * size)
    (hsrc : ∀ j v, cs[j]? = some v → w.cell? (ad.add j) = some v) (hfit : off + cs.length ≤ cur.length) (h1 : ∀ v ∈ cs, v.oneCell' = true) (new : List Value) (hnew : cur.take off ++ cs ++ cur.drop (off + cs.length) = new) (B : Nat) (w0 : World) (hb : Below B w0 w) (hBg : B ≤ g)
    (h : ∀ w', Hid (Blk w' g new t) → Below B w0 w' → wpList P ops Q rest (a.put o.dst (.int .i64 (m : Int))) w') : wpList P ops Q (o :: rest) a w := by
  subst hm hnew
  refine wpList_plain hgd fun K hK => ?_
  have hrun := run_copy_wide (P := P) w dT sT o.type elem g off dLen dCap ad sLen sCap size cur.toArray t cs hu hsz hg hn hsrc (by simpa using hfit) h1
  have h := h _ (show _ = _ from setRow_heap w g _ (cur.take off ++ cs ++ cur.drop (off + cs.length)).toArray t _ hg) (below_setRow hb hBg _)
  unfold Oper.wp
  simp [execOp, ho, resolve, invoke, builtin, hd, hs, hrun, Result.andThen]
  simp only [List.append_assoc] at h
  exact hK _ _ h

theorem step_copy_wide {P : Program} {ops : Array Oper} {o : Oper} {a : Act} {w : World} {K : Act → World → Prop} {Q : Exit → Act → World → Prop} {E : Prop} (hgd : o.guard = none) (d s : Operand) (dT sT : TypeId)
    (ho : o.op = .call { callee := .builtin .copy, args := #[d, s], argTypes := #[dT, sT] }) (elem : TypeId) (size : Nat) (hu : P.underlying dT = some (.slice elem)) (hsz : (P.info? elem).map (·.size) = some size)
    (g off dLen dCap : Nat) (ad : Addr) (sLen sCap : Nat) (hd : a.eval d = .slice (some ⟨g, off, none⟩) dLen dCap) (hs : a.eval s = .slice (some ad) sLen sCap)
    (cur : List Value) (t : TypeId) (hg : Blk w g cur t) (cs : List Value) (m : Nat) (hm : m = Nat.min sLen dLen) (hn : cs.length = m * size)
    (hsrc : ∀ j v, cs[j]? = some v → w.cell? (ad.add j) = some v) (hfit : off + cs.length ≤ cur.length) (h1 : ∀ v ∈ cs, v.oneCell' = true) (new : List Value) (hnew : cur.take off ++ cs ++ cur.drop (off + cs.length) = new) (B : Nat) (w0 : World) (hb : Below B w0 w) (hBg : B ≤ g)
    (h : ∀ w', Hid (Blk w' g new t) → Below B w0 w' → K (a.put o.dst (.int .i64 (m : Int))) w') :
    if Region.wanted o (yielded ops a.tmps) = true then Oper.wp P o a w K Q else E := by
  have hw : Region.wanted o (yielded ops a.tmps) = true := by simp [Region.wanted, hgd]
  rw [if_pos hw]
  subst hm hnew
  have hrun := run_copy_wide (P := P) w dT sT o.type elem g off dLen dCap ad sLen sCap size cur.toArray t cs hu hsz hg hn hsrc (by simpa using hfit) h1
  have h := h _ (show _ = _ from setRow_heap w g _ (cur.take off ++ cs ++ cur.drop (off + cs.length)).toArray t _ hg) (below_setRow hb hBg _)
  unfold Oper.wp
  simp [execOp, ho, resolve, invoke, builtin, hd, hs, hrun, Result.andThen]
  simp only [List.append_assoc] at h
  exact h

theorem src_cells {w : World} {b c m size : Nat} {news : List Value} (hl : news.length = m * size) (hc : ∀ j u, news[j]? = some u → w.cell? ⟨b, j, none⟩ = some u) (h1 : ∀ u, u ∈ news → u.oneCell' = true) : SrcS w size (.slice (some ⟨b, 0, none⟩) m c) m news :=
  .inr ⟨⟨b, 0, none⟩, c, rfl, hl, fun j u hu => by rw [Addr.add_lit]; simpa using hc j u hu, h1⟩

theorem one_ints (l : List Int) : ∀ u, u ∈ l.map (Value.int .i64) → u.oneCell' = true := by
  intro u hu
  obtain ⟨x, _, rfl⟩ := List.mem_map.1 hu
  rfl

theorem all2 {α : Type} {E : Enc α} {w : World} {x y : α} {cx cy : List Value} (h : E.ow w cx x []) (k : E.ow w cy y []) : OwAll E w [x, y] [cx, cy] [[], []] := .cons h (.cons k .nil)

theorem below_cell_alloc (w : World) (o : Obj) {a : Addr} (h : a.block < w.heap.size) : (w.alloc o).cell? a = w.cell? a := ((Below.refl w.heap.size w).alloc (Nat.le_refl _) o).cell h

theorem cell_al {w : World} {a : Addr} {v : Value} (h : w.cell? a = some v) (o : Obj) : (w.alloc o).cell? a = some v := by rw [below_cell_alloc w o (World.block_lt_of_cell? w _ h)]; exact h

theorem Star.drew {w0 w : World} {ps : List Ob} (S : Star w0 w ps) : Star w0 w.drew ps := S.step (Below.refl _ _).drew

end Go.Proofs.YtjochoghmpcgdaaDoor

/-
  Plain lemmas: an element of a slice of one's own is written anew.
-/
namespace Go.Proofs.YtjochoghmpcgdaaDoor
open Go.RowKit

theorem OwAll.set {α : Type} {E : Enc α} {w : World} {l : List α} {xss : List (List Value)} {fps : List (List Nat)} (h : OwAll E w l xss fps) {u : List Value} {y : α} {g : List Nat} (hy : E.ow w u y g) (i : Nat) :
    OwAll E w (l.set i y) (xss.set i u) (fps.set i g) := by
  induction h generalizing i with
  | nil => exact .nil
  | cons h1 h2 ih =>
    cases i with
    | zero => exact .cons hy h2
    | succ i => exact .cons h1 (ih i)

theorem OwAll.ones {α : Type} {E : Enc α} {w : World} {l : List α} {xss : List (List Value)} {fps : List (List Nat)} (h : OwAll E w l xss fps) (hE : E.size = 1) : ∀ x, x ∈ xss → x.length = 1 := by
  induction h with
  | nil => intro x hx; cases hx
  | cons h1 h2 ih =>
    intro x hx
    rcases List.mem_cons.1 hx with rfl | hx
    · rw [← hE]; exact E.rd_len (E.rd_ow h1)
    · exact ih x hx

theorem flatten_set1 {v : Value} : ∀ (xss : List (List Value)) (i : Nat), (∀ x, x ∈ xss → x.length = 1) → (xss.set i [v]).flatten = xss.flatten.set i v
  | [], i, _ => by simp
  | x :: xss, i, h => by
    obtain ⟨a, rfl⟩ := List.length_eq_one_iff.1 (h x (by simp))
    cases i with
    | zero => simp
    | succ i =>
      have := flatten_set1 (v := v) xss i (fun y hy => h y (by simp [hy]))
      simp [this]

theorem nodup_flatten_set {g : List Nat} : ∀ (fps : List (List Nat)) (i : Nat) (p : List Nat), (p ++ fps.flatten ++ g).Nodup → (p ++ (fps.set i g).flatten).Nodup
  | [], i, p, h => by
    rw [List.set_nil]
    exact (List.nodup_append.1 h).1
  | f :: fps, i, p, h => by
    cases i with
    | zero =>
      have h2 : (p ++ (fps.flatten ++ g)).Nodup := by
        refine List.Nodup.sublist ?_ h
        rw [List.append_assoc, List.flatten_cons, List.append_assoc]
        exact List.Sublist.append (List.Sublist.refl p) (List.sublist_append_right f _)
      rw [List.set_cons_zero, List.flatten_cons]
      exact ((List.perm_append_comm (l₁ := fps.flatten) (l₂ := g)).append_left p).nodup_iff.1 h2
    | succ i =>
      have := nodup_flatten_set (g := g) fps i (p ++ f) (by simpa [List.append_assoc] using h)
      rw [List.set_cons_succ, List.flatten_cons, ← List.append_assoc]
      exact this

theorem mem_flatten_set {g : List Nat} {b : Nat} : ∀ (fps : List (List Nat)) (i : Nat), b ∈ (fps.set i g).flatten → b ∈ fps.flatten ∨ b ∈ g
  | [], i, h => by simp at h
  | f :: fps, i, h => by
    cases i with
    | zero =>
      rw [List.set_cons_zero, List.flatten_cons] at h
      rcases List.mem_append.1 h with h | h
      · exact .inr h
      · exact .inl (by rw [List.flatten_cons]; exact List.mem_append_right _ h)
    | succ i =>
      rw [List.set_cons_succ, List.flatten_cons] at h
      rcases List.mem_append.1 h with h | h
      · exact .inl (by rw [List.flatten_cons]; exact List.mem_append_left _ h)
      · rcases mem_flatten_set fps i h with h | h
        · exact .inl (by rw [List.flatten_cons]; exact List.mem_append_right _ h)
        · exact .inr h

/-- Two parts held as one. -/
def oTwo (P Q : Ob) : Ob := ⟨fun w fp => ∃ f g, fp = f ++ g ∧ P.holds w f ∧ Q.holds w g, fun hf ⟨f, g, e, h1, h2⟩ => ⟨f, g, e, P.frame (fun b hb => hf b (by rw [e]; exact List.mem_append_left _ hb)) h1, Q.frame (fun b hb => hf b (by rw [e]; exact List.mem_append_right _ hb)) h2⟩⟩

theorem Star.setE {w0 w : World} {ps : List Ob} {α : Type} {E : Enc α} {ty : TypeId} {l : List α} {y : α} {u : Value} {g n c : Nat} (hE : E.size = 1) (S : Star w0 w (oE (sliceE E ty) [.slice (some ⟨g, 0, none⟩) n c] l :: oE E [u] y :: ps)) (i : Nat) (hi : i < l.length) :
    Star w0 (w.setCell ⟨g, i, none⟩ u) (oE (sliceE E ty) [.slice (some ⟨g, 0, none⟩) n c] (l.set i y) :: ps) := by
  have S2 := S.join (R := oTwo _ _) (fun f g h1 h2 => ⟨f, g, rfl, h1, h2⟩)
  refine S2.upd ?_
  rintro fp ⟨f, gf, rfl, ⟨v, xss, fps, he, h1, h2, rfl⟩, hy⟩ nd hlt
  simp only [List.cons.injEq, and_true] at he
  subst he
  have ew : w.heap[g]? = (w.heap[g]?) := rfl
  obtain ⟨hx, h3⟩ := h2
  rcases h3 with ⟨h3, -⟩ | ⟨g', cap, cur, e3, hg, hh, hc, hm, hs, ht⟩
  · cases h3
  simp only [Value.slice.injEq, Option.some.injEq, Addr.mk.injEq, and_true] at e3
  obtain ⟨rfl, rfl, rfl⟩ := e3
  have ob : (Value.slice (some ⟨g, 0, none⟩) l.length c).ownBlock.toList = [g] := rfl
  rw [ob] at nd hlt ⊢
  have hgl : g < w.heap.size := (Array.getElem?_eq_some_iff.1 hh).1
  have hB : Blk w g cur.toList ty := by unfold Blk; rw [hh]
  have hB' := hB.set i u
  have hone := h1.ones hE
  have hgn : g ∉ fps.flatten ++ gf := by
    rw [List.append_assoc, List.singleton_append, List.nodup_cons] at nd
    exact nd.1
  have fr : ∀ b, b ∈ fps.flatten ++ gf → (w.setCell ⟨g, i, none⟩ u).heap[b]? = w.heap[b]? := fun b hb => (((But.refl [g] w).setCell (a := ⟨g, i, none⟩) (by simp) u).block b (hlt b (by rw [List.append_assoc]; exact List.mem_append_right _ hb)) (fun e => hgn (by rw [List.mem_singleton] at e; exact e ▸ hb)))
  have o1 := (h1.frame (fun b hb => fr b (List.mem_append_left _ hb))).set (E.ow_frame (fun b hb => fr b (List.mem_append_right _ hb)) hy) i
  refine ⟨[g] ++ (fps.set i gf).flatten, ⟨_, xss.set i [u], fps.set i gf, rfl, o1, ⟨?_, .inr ⟨g, c, (cur.toList.set i u).toArray, by rw [List.length_set], Nat.zero_le _, hB', by rw [List.length_set]; exact hc, hm, by simpa using hs, ?_⟩⟩, rfl⟩, ?_, ?_, ?_, ?_⟩
  · rw [flatten_set1 _ _ hone, List.length_set, List.length_set]; exact hx
  · rw [flatten_set1 _ _ hone, List.length_set, ← ht, List.take_set]
  · exact nodup_flatten_set fps i [g] nd
  · intro b hb
    left
    rcases List.mem_append.1 hb with h | h
    · exact List.mem_append_left _ (List.mem_append_left _ h)
    · rcases mem_flatten_set fps i h with h | h
      · exact List.mem_append_left _ (List.mem_append_right _ h)
      · exact List.mem_append_right _ h
  · intro b hb
    rw [show (w.setCell ⟨g, i, none⟩ u).heap.size = w.heap.size from by simp]
    rcases List.mem_append.1 hb with h | h
    · exact hlt b (List.mem_append_left _ (List.mem_append_left _ h))
    · rcases mem_flatten_set fps i h with h | h
      · exact hlt b (List.mem_append_left _ (List.mem_append_right _ h))
      · exact hlt b (List.mem_append_right _ h)
  · exact (But.refl _ _).setCell (by simp) _

/-- The block of a slice of one's own. -/
theorem Star.at0 {w0 w : World} {ps : List Ob} (S : Star w0 w ps) (n : Nat) {α : Type} {E : Enc α} {ty : TypeId} {v : Value} {l : List α} (h : ps[n]? = some (oE (sliceE E ty) [v] l)) (hl : 0 < l.length) (hE : E.size = 1) :
    ∃ g c, v = .slice (some ⟨g, 0, none⟩) l.length c ∧ w0.heap.size ≤ g ∧ (∀ i, w.frozen? ⟨g, i, none⟩ = false) ∧ l.length ≤ c ∧ c ≤ maxLen ∧ ∀ i, i < l.length → ∃ x u f, l[i]? = some x ∧ w.cell? ⟨g, i, none⟩ = some u ∧ E.ow w [u] x f := by
  obtain ⟨_, fp, hh, _⟩ := S
  obtain ⟨⟨v', xss, fps, he, h1, h2, hfp⟩, nd, hlt⟩ := hh n _ h
  simp only [List.cons.injEq, and_true] at he
  subst he
  obtain ⟨hx, h3⟩ := h2
  rcases h3 with ⟨-, h3⟩ | ⟨g, cap, cur, rfl, hg, hh2, hc, hm, hs, ht⟩
  · omega
  have hB : Blk w g cur.toList ty := by unfold Blk; rw [hh2]
  refine ⟨g, cap, rfl, (hlt g (by rw [hfp]; simp [Value.ownBlock])).1, hB.free, hc, hm, fun i hi => ?_⟩
  obtain ⟨xs, f, e1, e2, e3, e4, e5⟩ := h1.rdAt (B := w.heap.size) (h1.lt) i l[i] (List.getElem?_eq_getElem hi)
  have hone := h1.ones hE xs (List.mem_of_getElem? e1)
  obtain ⟨u, rfl⟩ := List.length_eq_one_iff.1 hone
  refine ⟨l[i], u, f, List.getElem?_eq_getElem hi, ?_, e3⟩
  have := e5 0 u rfl
  rw [hE, Nat.mul_one, Nat.add_zero, ← ht, List.getElem?_take] at this
  split at this
  · exact hB.cell i (by simpa using this)
  · cases this

theorem Star.free0 {w0 w : World} {ps : List Ob} (S : Star w0 w ps) (n : Nat) {α : Type} {E : Enc α} {ty : TypeId} {g m c : Nat} {l : List α} (h : ps[n]? = some (oE (sliceE E ty) [.slice (some ⟨g, 0, none⟩) m c] l)) (hl : 0 < l.length) (hE : E.size = 1) :
    ∀ i, w.frozen? ⟨g, i, none⟩ = false := by
  obtain ⟨g', c', e, -, fz, -⟩ := S.at0 n h hl hE
  simp only [Value.slice.injEq, Option.some.injEq, Addr.mk.injEq, and_true] at e
  obtain ⟨rfl, -⟩ := e
  exact fz

theorem sub_flatten {α : Type} : ∀ (L : List (List α)) (i : Nat) (f : List α), L[i]? = some f → f.Sublist L.flatten
  | [], i, f, h => by simp at h
  | a :: L, 0, f, h => by
    obtain rfl : a = f := by simpa using h
    rw [List.flatten_cons]
    exact List.sublist_append_left _ _
  | a :: L, i + 1, f, h => by
    rw [List.flatten_cons]
    exact (sub_flatten L i f (by simpa using h)).trans (List.sublist_append_right _ _)

/-- One element of a slice of one's own; the rest is left. -/
theorem Star.elem {w0 w : World} {ps : List Ob} {α : Type} {E : Enc α} {ty : TypeId} {l : List α} {g n c : Nat} (S : Star w0 w (oE (sliceE E ty) [.slice (some ⟨g, 0, none⟩) n c] l :: ps)) (hE : E.size = 1) (i : Nat) (x : α) (hi : l[i]? = some x) {u : Value} (hu : w.cell? ⟨g, i, none⟩ = some u) :
    Star w0 w (oE E [u] x :: ps) := by
  refine S.upd ?_
  rintro fp ⟨v, xss, fps, he, h1, h2, rfl⟩ nd hlt
  simp only [List.cons.injEq, and_true] at he
  subst he
  obtain ⟨hx, h3⟩ := h2
  rcases h3 with ⟨h3, -⟩ | ⟨g', cap, cur, e3, hg, hh, hc, hm, hs, ht⟩
  · cases h3
  simp only [Value.slice.injEq, Option.some.injEq, Addr.mk.injEq, and_true] at e3
  obtain ⟨rfl, rfl, rfl⟩ := e3
  have hB : Blk w g cur.toList ty := by unfold Blk; rw [hh]
  obtain ⟨xs, f, e1, e2, e3, e4, e5⟩ := h1.rdAt (B := w.heap.size) (h1.lt) i x hi
  have hone := h1.ones hE xs (List.mem_of_getElem? e1)
  obtain ⟨u', rfl⟩ := List.length_eq_one_iff.1 hone
  have hu2 : w.cell? ⟨g, i, none⟩ = some u' := by
    have := e5 0 u' rfl
    rw [hE, Nat.mul_one, Nat.add_zero, ← ht, List.getElem?_take] at this
    split at this
    · exact hB.cell i (by simpa using this)
    · cases this
  obtain rfl : u = u' := Option.some.inj (hu.symm.trans hu2)
  have hs := sub_flatten fps i f e2
  exact ⟨f, e3, (List.nodup_append.1 nd).2.1.sublist hs, fun b hb => .inl (List.mem_append_right _ (hs.subset hb)), fun b hb => hlt b (List.mem_append_right _ (hs.subset hb)), But.refl _ _⟩

end Go.Proofs.YtjochoghmpcgdaaDoor

/-
  Plain definitions: what the laws' mark.. helpers leave in a value, and what the held.. helpers look for; a value with an element exchanged. No program is named here.
-/
namespace Go.Proofs.YtjochoghmpcgdaaDoor
open Go.RowKit

/-- A value that bears marks from a number on, and how many it bears. -/
structure Mk (α : Type) where
  held : α → Int → Prop
  cnt : α → Nat

def intsM : Mk (List Int) := ⟨fun l k => ∀ i, i < l.length → l[i]?.getD 0 = k + i, List.length⟩
def boolsM : Mk (List Bool) := ⟨fun l k => ∀ i, i < l.length → l[i]?.getD false = decide ((k + i) % 3 = 0), List.length⟩
def movesM : Mk (List Move) := ⟨fun l k => ∀ i, i < l.length → l[i]?.getD default = ⟨k + 2 * i, k + 2 * i + 1⟩, fun l => 2 * l.length⟩
def pmovesM : Mk (List PMove) := ⟨fun l k => ∀ i, i < l.length → l[i]?.getD default = ⟨k + 3 * i, k + 3 * i + 1, k + 3 * i + 1 + 1⟩, fun l => 3 * l.length⟩

def heldL {α : Type} (M : Mk α) : List α → Int → Prop
  | [], _ => True
  | a :: l, k => M.held a k ∧ heldL M l (k + M.cnt a)
def cntL {α : Type} (M : Mk α) (l : List α) : Nat := (l.map M.cnt).sum
def listM {α : Type} (M : Mk α) : Mk (List α) := ⟨heldL M, cntL M⟩

theorem heldL_append {α : Type} (M : Mk α) (l : List α) (a : α) (k : Int) : heldL M (l ++ [a]) k ↔ heldL M l k ∧ M.held a (k + cntL M l) := by
  induction l generalizing k with
  | nil => simp [heldL, cntL]
  | cons b l ih =>
    simp only [List.cons_append, heldL, ih, cntL, List.map_cons, List.sum_cons, and_assoc]
    rw [show k + (M.cnt b : Int) + ((l.map M.cnt).sum : Nat) = k + ((M.cnt b + (l.map M.cnt).sum : Nat) : Int) from by omega]

theorem cntL_append {α : Type} (M : Mk α) (l l' : List α) : cntL M (l ++ l') = cntL M l + cntL M l' := by simp [cntL]

theorem cntL_take_le {α : Type} (M : Mk α) (l : List α) (k : Nat) : cntL M (l.take k) ≤ cntL M l := by
  conv => rhs; rw [← List.take_append_drop k l]
  rw [cntL_append]; omega

theorem cntL_take {α : Type} (M : Mk α) (l : List α) (k : Nat) (x : α) (h : l[k]? = some x) : cntL M (l.take (k + 1)) = cntL M (l.take k) + M.cnt x := by
  obtain ⟨hk, rfl⟩ := List.getElem?_eq_some_iff.1 h
  rw [List.take_succ_eq_append_getElem hk, cntL_append]
  simp [cntL]

theorem heldL_take {α : Type} (M : Mk α) (l : List α) (k : Nat) (j : Int) (x : α) (h : l[k]? = some x) (hh : heldL M l j) : M.held x (j + cntL M (l.take k)) := by
  induction l generalizing k j with
  | nil => simp at h
  | cons a l ih =>
    cases k with
    | zero =>
      simp only [List.getElem?_cons_zero, Option.some.injEq] at h
      subst h
      simpa [cntL] using hh.1
    | succ k =>
      have := ih k (j + M.cnt a) (by simpa using h) hh.2
      rw [List.take_succ_cons]
      have e : cntL M (a :: l.take k) = M.cnt a + cntL M (l.take k) := by simp [cntL]
      rw [e]
      rwa [show j + ((M.cnt a + cntL M (l.take k) : Nat) : Int) = j + (M.cnt a : Int) + (cntL M (l.take k) : Nat) from by omega]

/-! ### A value of its own whose one element is exchanged -/

theorem OwAll.at {α : Type} {E : Enc α} {w : World} {l : List α} {xss : List (List Value)} {fps : List (List Nat)} (h : OwAll E w l xss fps) (hn : fps.flatten.Nodup) :
    ∀ j x, l[j]? = some x → ∃ xs f, xss[j]? = some xs ∧ E.ow w xs x f ∧ f.Nodup ∧ (∀ b, b ∈ f → b ∈ fps.flatten) ∧
      ∀ (w' : World) x', But f w w' → E.ow w' xs x' f → OwAll E w' (l.set j x') xss fps := by
  induction h with
  | nil => intro j x hx; simp at hx
  | @cons a l cs xss f fps h1 h2 ih =>
    rw [List.flatten_cons, List.nodup_append] at hn
    obtain ⟨n1, n2, n3⟩ := hn
    intro j x hx
    cases j with
    | zero =>
      simp only [List.getElem?_cons_zero, Option.some.injEq] at hx
      subst hx
      refine ⟨cs, f, rfl, h1, n1, fun b hb => by simp [hb], fun w' x' hb ho => ?_⟩
      rw [List.set_cons_zero]
      refine .cons ho (h2.frame fun b hm => ?_)
      exact hb.block b (h2.lt b hm) (fun hf => n3 b hf b hm rfl)
    | succ j =>
      obtain ⟨xs, g, e1, e2, e3, e4, e5⟩ := ih n2 j x (by simpa using hx)
      refine ⟨xs, g, by simpa using e1, e2, e3, fun b hb => by rw [List.flatten_cons]; exact List.mem_append_right _ (e4 b hb), fun w' x' hb ho => ?_⟩
      rw [List.set_cons_succ]
      refine .cons (E.ow_but h1 hb (fun b hm hg => n3 b hm b (e4 b hg) rfl)) (e5 w' x' hb ho)

theorem ow_elem {α : Type} {E : Enc α} {ty : TypeId} {w : World} {v : Value} {l : List α} {fp : List Nat} (h : (sliceE E ty).ow w [v] l fp) (hn : fp.Nodup) (j : Nat) (x : α) (hx : l[j]? = some x) :
    ∃ g cap xs f, v = .slice (some ⟨g, 0, none⟩) l.length cap ∧ g < w.heap.size ∧ E.ow w xs x f ∧ f.Nodup ∧ (∀ b, b ∈ f → b ∈ fp ∧ b ≠ g) ∧ (∀ i u, xs[i]? = some u → w.cell? ⟨g, j * E.size + i, none⟩ = some u) ∧
      ∀ (w' : World) x', But f w w' → E.ow w' xs x' f → (sliceE E ty).ow w' [v] (l.set j x') fp := by
  obtain ⟨v', xss, fps, hv, h1, h2, rfl⟩ := h
  obtain rfl : v = v' := by simpa using hv
  rw [List.nodup_append] at hn
  obtain ⟨n1, n2, n3⟩ := hn
  obtain ⟨xs, f, e1, e2, e3, e4, e5⟩ := h1.at n2 j x hx
  have hj := (List.getElem?_eq_some_iff.1 hx).1
  obtain ⟨hl2, hr⟩ := h2
  rcases hr with ⟨_, h0⟩ | ⟨g, cap, cur, rfl, hg, hh, hc, hm, hs, ht⟩
  · omega
  refine ⟨g, cap, xs, f, rfl, (Array.getElem?_eq_some_iff.1 hh).1, e2, e3, fun b hb => ⟨List.mem_append_right _ (e4 b hb), fun e => n3 g (by simp [Value.ownBlock]) b (e4 b hb) e.symm⟩, fun i u hu => ?_, fun w' x' hb ho => ?_⟩
  · obtain ⟨xs', f', q1, _, _, _, q5⟩ := h1.rdAt (B := w.heap.size) h1.lt j x hx
    rw [e1] at q1
    cases q1
    have hf := q5 i u hu
    rw [← ht, List.getElem?_take] at hf
    split at hf
    · unfold World.cell?
      rw [hh]
      simpa using hf
    · cases hf
  · refine ⟨_, xss, fps, rfl, e5 w' x' hb ho, ?_, rfl⟩
    rw [List.length_set]
    refine ⟨hl2, .inr ⟨g, cap, cur, rfl, hg, ?_, hc, hm, hs, ht⟩⟩
    rw [hb.block g (Array.getElem?_eq_some_iff.1 hh).1 (fun hf => n3 g (by simp [Value.ownBlock]) g (e4 g hf) rfl)]
    exact hh

/-- What a mark.. helper does. -/
def Marks {α : Type} (E : Enc α) (M : Mk α) (cs : List Value) (a : α) (fp : List Nat) (k : Int) (w : World) (e : Ending) (w' : World) : Prop :=
  ∃ a', e = .returned (.int .i64 (k + M.cnt a)) ∧ E.ow w' cs a' fp ∧ M.held a' k ∧ M.cnt a' = M.cnt a ∧ But fp w w'

theorem marks_nil {α : Type} {E : Enc α} {M : Mk α} {cs : List Value} {a : α} {fp : List Nat} {k : Int} {w : World} (ho : E.ow w cs a fp) (hm : M.held a k) (hc : M.cnt a = 0) : Marks E M cs a fp k w (.returned (.int .i64 k)) w :=
  ⟨a, by rw [hc]; simp, ho, hm, rfl, But.refl _ _⟩

theorem ow_flat_inv {α : Type} {E : Enc α} {ty : TypeId} {w : World} {v : Value} {l : List α} {fp : List Nat} (c : α → Value) (hE : E.size = 1) (inv : ∀ w xs x f, E.ow w xs x f → xs = [c x] ∧ f = []) (h : (sliceE E ty).ow w [v] l fp) :
    fp = v.ownBlock.toList ∧ w.ownsRow 0 ty 1 v l.length (l.map c) ∧ ∀ x, x ∈ l → E.ow w [c x] x [] := by
  obtain ⟨v', xss, fps, hv, h1, h2, rfl⟩ := h
  obtain rfl : v = v' := by simpa using hv
  have key : xss.flatten = l.map c ∧ fps.flatten = [] ∧ ∀ x, x ∈ l → E.ow w [c x] x [] := by
    clear h2 hv
    induction h1 with
    | nil => exact ⟨rfl, rfl, fun x hx => by cases hx⟩
    | @cons a l cs xss f fps h1 h2 ih =>
      obtain ⟨rfl, rfl⟩ := inv _ _ _ _ h1
      obtain ⟨i1, i2, i3⟩ := ih
      refine ⟨by simp [i1], by simp [i2], fun x hx => ?_⟩
      rcases List.mem_cons.1 hx with rfl | hx
      · exact h1
      · exact i3 x hx
  obtain ⟨k1, k2, k3⟩ := key
  rw [hE, k1] at h2
  exact ⟨by rw [k2, List.append_nil], h2, k3⟩

theorem ow_flats_inv {α : Type} {E : Enc α} {ty : TypeId} {w : World} {v : Value} {l : List α} {fp : List Nat} (c : α → List Value) (inv : ∀ w xs x f, E.ow w xs x f → xs = c x ∧ f = []) (h : (sliceE E ty).ow w [v] l fp) :
    fp = v.ownBlock.toList ∧ w.ownsRow 0 ty E.size v l.length (l.flatMap c) := by
  obtain ⟨v', xss, fps, hv, h1, h2, rfl⟩ := h
  obtain rfl : v = v' := by simpa using hv
  have key : xss.flatten = l.flatMap c ∧ fps.flatten = [] := by
    clear h2 hv
    induction h1 with
    | nil => exact ⟨rfl, rfl⟩
    | @cons a l cs xss f fps h1 h2 ih =>
      obtain ⟨rfl, rfl⟩ := inv _ _ _ _ h1
      obtain ⟨i1, i2⟩ := ih
      exact ⟨by simp [i1], by simp [i2]⟩
  obtain ⟨k1, k2⟩ := key
  rw [k1] at h2
  exact ⟨by rw [k2, List.append_nil], h2⟩

theorem ret_k {a b : Int} (h : a = b) : Value.int .i64 a = Value.int .i64 b := by rw [h]

theorem ow_len {α : Type} {E : Enc α} {ty : TypeId} {w : World} {v : Value} {l : List α} {fp : List Nat} (h : (sliceE E ty).ow w [v] l fp) : l.length ≤ 9223372036854775807 := len_le ((sliceE E ty).rd_ow h)

/-- A slice of slices (or structs of one cell) of which the first j elements have been marked. -/
def MState {α : Type} (E : Enc α) (ty : TypeId) (M : Mk α) (l : List α) (fp : List Nat) (v : Value) (k0 : Int) (w wr : World) (j : Nat) : Prop :=
  ∃ l', (sliceE E ty).ow wr [v] l' fp ∧ But fp w wr ∧ heldL M (l'.take j) k0 ∧ (∀ i, j ≤ i → l'[i]? = l[i]?) ∧ l'.map M.cnt = l.map M.cnt

section
variable {α : Type} {E : Enc α} {ty : TypeId} {M : Mk α} {l : List α} {fp : List Nat} {v : Value} {k0 : Int} {w wr : World} {j : Nat}

theorem MState.start (h : (sliceE E ty).ow w [v] l fp) : MState E ty M l fp v k0 w w 0 := ⟨l, h, But.refl _ _, trivial, fun _ _ => rfl, rfl⟩

theorem cntL_take_congr {l l' : List α} (h : l'.map M.cnt = l.map M.cnt) (j : Nat) : cntL M (l'.take j) = cntL M (l.take j) := by
  unfold cntL
  rw [List.map_take, List.map_take, h]

theorem MState.elem (hE : E.size = 1) (hn : fp.Nodup) (h : MState E ty M l fp v k0 w wr j) {x : α} (hx : l[j]? = some x) :
    ∃ g cap vk f, v = .slice (some ⟨g, 0, none⟩) l.length cap ∧ wr.cell? ⟨g, j, none⟩ = some vk ∧ E.ow wr [vk] x f ∧ f.Nodup ∧
      ∀ (w' : World) x', But f wr w' → E.ow w' [vk] x' f → M.held x' (k0 + cntL M (l.take j)) → M.cnt x' = M.cnt x → MState E ty M l fp v k0 w w' (j + 1) := by
  obtain ⟨l', h1, h2, h3, h4, h5⟩ := h
  have hlen : l'.length = l.length := by have := congrArg List.length h5; simpa using this
  obtain ⟨g, cap, xs, f, e1, e2, e3, e4, e5, e6, e7⟩ := ow_elem h1 hn j x (by rw [h4 j (Nat.le_refl _)]; exact hx)
  have hl := E.rd_len (E.rd_ow e3)
  rw [hE] at hl
  match xs, hl with
  | [vk], _ =>
    rw [hlen] at e1
    refine ⟨g, cap, vk, f, e1, by have := e6 0 vk rfl; rw [hE] at this; simpa using this, e3, e4, fun w' x' hb ho hm hc => ?_⟩
    have hjl : j < l'.length := by rw [hlen]; exact (List.getElem?_eq_some_iff.1 hx).1
    refine ⟨l'.set j x', e7 w' x' hb ho, ?_, ?_, fun i hi => ?_, ?_⟩
    · exact h2.trans ⟨hb.os, hb.tape, hb.output, hb.size, fun k hk hnk => hb.block k hk (fun hf => hnk (e5 k hf).1)⟩
    · rw [List.take_succ_eq_append_getElem (by rw [List.length_set]; exact hjl), heldL_append]
      rw [List.take_set_of_le (Nat.le_refl j)]
      refine ⟨h3, ?_⟩
      rw [List.getElem_set_self, cntL_take_congr h5]
      exact hm
    · rw [List.getElem?_set_ne (by omega)]
      exact h4 i (by omega)
    · rw [List.map_set, h5, hc]
      apply List.ext_getElem?
      intro i
      by_cases e : i = j
      · subst e
        rw [List.getElem?_set_self (by simp; omega), List.getElem?_map, hx]; rfl
      · rw [List.getElem?_set_ne (fun e' => e e'.symm)]

theorem MState.done (h : MState E ty M l fp v k0 w wr l.length) : Marks (sliceE E ty) (listM M) [v] l fp k0 w (.returned (.int .i64 (k0 + cntL M l))) wr := by
  obtain ⟨l', h1, h2, h3, h4, h5⟩ := h
  have hlen : l'.length = l.length := by have := congrArg List.length h5; simpa using this
  refine ⟨l', rfl, h1, ?_, ?_, h2⟩
  · rw [← hlen, List.take_length] at h3; exact h3
  · show cntL M l' = cntL M l
    have := cntL_take_congr h5 l.length
    rwa [← hlen, List.take_length, hlen, List.take_length] at this
end

end Go.Proofs.YtjochoghmpcgdaaDoor

/-
  Two small laws for the marks of structs.
-/
namespace Go.Proofs.YtjochoghmpcgdaaDoor
open Go.RowKit

theorem But.mono {fp fq : List Nat} {w w' : World} (h : But fp w w') (hs : ∀ b, b ∈ fp → b ∈ fq) : But fq w w' :=
  ⟨h.os, h.tape, h.output, h.size, fun k hk hn => h.block k hk (fun hp => hn (hs k hp))⟩

theorem ret_k_ret {a b : Int} (h : a = b) : Ending.returned (Value.int .i64 a) = Ending.returned (Value.int .i64 b) := by rw [h]

end Go.Proofs.YtjochoghmpcgdaaDoor

/-
  Plain lemmas: an element of a row of a slice of slices of one's own is written anew. No program is named here.
-/
namespace Go.Proofs.YtjochoghmpcgdaaDoor
open Go.RowKit

theorem OwAll.flat_fp {α : Type} {E : Enc α} (hfl : ∀ w cs x f, E.ow w cs x f → f = []) {w : World} {l : List α} {xss : List (List Value)} {fps : List (List Nat)} (h : OwAll E w l xss fps) : fps.flatten = [] := by
  induction h with
  | nil => rfl
  | cons h1 h2 ih => rw [List.flatten_cons, ih, hfl _ _ _ _ h1]; rfl

theorem OwAll.sizes {α : Type} {E : Enc α} {w : World} {l : List α} {xss : List (List Value)} {fps : List (List Nat)} (h : OwAll E w l xss fps) : ∀ x, x ∈ xss → x.length = E.size := by
  induction h with
  | nil => intro x hx; cases hx
  | cons h1 h2 ih =>
    intro x hx
    rcases List.mem_cons.1 hx with rfl | hx
    · exact E.rd_len (E.rd_ow h1)
    · exact ih x hx

theorem flatten_set2 {u v : Value} : ∀ (xss : List (List Value)) (i : Nat), (∀ x, x ∈ xss → x.length = 2) → (xss.set i [u, v]).flatten = (xss.flatten.set (i * 2) u).set (i * 2 + 1) v
  | [], i, _ => by simp
  | x :: xss, i, h => by
    obtain ⟨a, b, rfl⟩ : ∃ a b, x = [a, b] := by
      have hx := h x (by simp)
      match x, hx with
      | [a, b], _ => exact ⟨a, b, rfl⟩
    cases i with
    | zero => simp
    | succ i =>
      have := flatten_set2 (u := u) (v := v) xss i (fun y hy => h y (by simp [hy]))
      rw [List.set_cons_succ, List.flatten_cons, this, show (i + 1) * 2 = i * 2 + 2 from by omega]
      simp

/-- A row of one-cell elements that own nothing. -/
theorem ow_set1 {α : Type} {E : Enc α} {ty : TypeId} {w : World} {l : List α} {g n c : Nat} {f : List Nat} (hE : E.size = 1) (hfl : ∀ w cs x f, E.ow w cs x f → f = []) (o : (sliceE E ty).ow w [.slice (some ⟨g, 0, none⟩) n c] l f) (i : Nat) {u : Value} {y : α}
    (hy : ∀ w, E.ow w [u] y []) : (sliceE E ty).ow (w.setCell ⟨g, i, none⟩ u) [.slice (some ⟨g, 0, none⟩) n c] (l.set i y) f ∧ f = [g] := by
  obtain ⟨v, xss, fps, he, h1, h2, rfl⟩ := o
  simp only [List.cons.injEq, and_true] at he
  subst he
  obtain ⟨hx, h3⟩ := h2
  rcases h3 with ⟨h3, -⟩ | ⟨g', cap, cur, e3, hg, hh, hc, hm, hs, ht⟩
  · cases h3
  simp only [Value.slice.injEq, Option.some.injEq, Addr.mk.injEq, and_true] at e3
  obtain ⟨rfl, rfl, rfl⟩ := e3
  have hf0 := h1.flat_fp hfl
  have hB : Blk w g cur.toList ty := by unfold Blk; rw [hh]
  have hB' := hB.set i u
  have hone := h1.ones hE
  have o1 := (h1.frame (w' := w.setCell ⟨g, i, none⟩ u) (fun b hb => by rw [hf0] at hb; cases hb)).set (hy _) i
  refine ⟨⟨_, xss.set i [u], fps.set i [], rfl, o1, ⟨?_, .inr ⟨g, c, (cur.toList.set i u).toArray, by rw [List.length_set], Nat.zero_le _, hB', by rw [List.length_set]; exact hc, hm, by simpa using hs, ?_⟩⟩, ?_⟩, ?_⟩
  · rw [flatten_set1 _ _ hone, List.length_set, List.length_set]; exact hx
  · rw [flatten_set1 _ _ hone, List.length_set, ← ht, List.take_set]
  · rw [o1.flat_fp hfl, hf0]
  · rw [hf0]; rfl

/-- A row of two-cell elements that own nothing. -/
theorem ow_set2 {α : Type} {E : Enc α} {ty : TypeId} {w : World} {l : List α} {g n c : Nat} {f : List Nat} (hE : E.size = 2) (hfl : ∀ w cs x f, E.ow w cs x f → f = []) (o : (sliceE E ty).ow w [.slice (some ⟨g, 0, none⟩) n c] l f) (i : Nat) {u v : Value} {y : α}
    (hy : ∀ w, E.ow w [u, v] y []) : (sliceE E ty).ow ((w.setCell ⟨g, i * 2, none⟩ u).setCell ⟨g, i * 2 + 1, none⟩ v) [.slice (some ⟨g, 0, none⟩) n c] (l.set i y) f ∧ f = [g] := by
  obtain ⟨v', xss, fps, he, h1, h2, rfl⟩ := o
  simp only [List.cons.injEq, and_true] at he
  subst he
  obtain ⟨hx, h3⟩ := h2
  rcases h3 with ⟨h3, -⟩ | ⟨g', cap, cur, e3, hg, hh, hc, hm, hs, ht⟩
  · cases h3
  simp only [Value.slice.injEq, Option.some.injEq, Addr.mk.injEq, and_true] at e3
  obtain ⟨rfl, rfl, rfl⟩ := e3
  have hf0 := h1.flat_fp hfl
  have hB : Blk w g cur.toList ty := by unfold Blk; rw [hh]
  have hB' := (hB.set (i * 2) u).set (i * 2 + 1) v
  have hone : ∀ x, x ∈ xss → x.length = 2 := fun x hx => by rw [h1.sizes x hx, hE]
  have o1 := (h1.frame (w' := (w.setCell ⟨g, i * 2, none⟩ u).setCell ⟨g, i * 2 + 1, none⟩ v) (fun b hb => by rw [hf0] at hb; cases hb)).set (hy _) i
  refine ⟨⟨_, xss.set i [u, v], fps.set i [], rfl, o1, ⟨?_, .inr ⟨g, c, ((cur.toList.set (i * 2) u).set (i * 2 + 1) v).toArray, by rw [List.length_set], Nat.zero_le _, hB', by rw [List.length_set]; exact hc, hm, by simpa using hs, ?_⟩⟩, ?_⟩, ?_⟩
  · rw [flatten_set2 _ _ hone, List.length_set, List.length_set, List.length_set]; exact hx
  · rw [flatten_set2 _ _ hone, List.length_set, ← ht, ← List.take_set, ← List.take_set]
  · rw [o1.flat_fp hfl, hf0]
  · rw [hf0]; rfl

theorem flatten_same : ∀ (L : List (List Nat)) (i : Nat) (f : List Nat), L[i]? = some f → L.set i f = L
  | [], i, f, h => by simp at h
  | a :: L, 0, f, h => by
    obtain rfl : a = f := by simpa using h
    rfl
  | a :: L, i + 1, f, h => by rw [List.set_cons_succ, flatten_same L i f (by simpa using h)]
theorem xs_same : ∀ (L : List (List Value)) (i : Nat) (f : List Value), L[i]? = some f → L.set i f = L
  | [], i, f, h => by simp at h
  | a :: L, 0, f, h => by
    obtain rfl : a = f := by simpa using h
    rfl
  | a :: L, i + 1, f, h => by rw [List.set_cons_succ, xs_same L i f (by simpa using h)]

theorem OwAll.but {α : Type} {E : Enc α} {w w' : World} {f : List Nat} (hbut : But f w w') : ∀ {l : List α} {xss : List (List Value)} {fps : List (List Nat)}, OwAll E w l xss fps → ∀ (i : Nat) {cs : List Value} {y : α}, fps.flatten.Nodup → fps[i]? = some f → xss[i]? = some cs → E.ow w' cs y f → OwAll E w' (l.set i y) xss fps
  | _, _, _, .nil, i, _, _, _, h, _, _ => by simp at h
  | _, _, _, @OwAll.cons _ _ _ a l cs0 xss f0 fps h1 h2, i, cs, y, nd, hf, hx, hy => by
    have nd2 := nd
    rw [List.flatten_cons, List.nodup_append] at nd2
    cases i with
    | zero =>
      obtain rfl : f0 = f := by simpa using hf
      obtain rfl : cs0 = cs := by simpa using hx
      exact .cons hy (h2.frame fun b hb => hbut.block b (h2.lt b hb) (fun hb2 => nd2.2.2 b hb2 b hb rfl))
    | succ i =>
      have hf' : fps[i]? = some f := by simpa using hf
      have hsub := (sub_flatten fps i f hf').subset
      refine .cons (E.ow_frame (fun b hb => hbut.block b (E.ow_lt h1 b hb) (fun hb2 => nd2.2.2 b hb b (hsub hb2) rfl)) h1) (h2.but hbut i nd2.2.1 hf' (by simpa using hx) hy)

/-- A row of a slice of slices is changed within. -/
theorem Star.inner {w0 w w' : World} {ps : List Ob} {α : Type} {E : Enc α} {ty : TypeId} {l : List α} {g n c : Nat} (S : Star w0 w (oE (sliceE E ty) [.slice (some ⟨g, 0, none⟩) n c] l :: ps)) (hE : E.size = 1) (i : Nat) (x : α) (hi : l[i]? = some x) {u : Value} (hu : w.cell? ⟨g, i, none⟩ = some u) {y : α}
    (h : ∀ f, E.ow w [u] x f → E.ow w' [u] y f ∧ But f w w') : Star w0 w' (oE (sliceE E ty) [.slice (some ⟨g, 0, none⟩) n c] (l.set i y) :: ps) := by
  refine S.upd ?_
  rintro fp ⟨v, xss, fps, he, h1, h2, rfl⟩ nd hlt
  simp only [List.cons.injEq, and_true] at he
  subst he
  obtain ⟨hx, h3⟩ := h2
  rcases h3 with ⟨h3, -⟩ | ⟨g', cap, cur, e3, hg, hh, hc, hm, hs, ht⟩
  · cases h3
  simp only [Value.slice.injEq, Option.some.injEq, Addr.mk.injEq, and_true] at e3
  obtain ⟨rfl, rfl, rfl⟩ := e3
  have ob : (Value.slice (some ⟨g, 0, none⟩) l.length c).ownBlock.toList = [g] := rfl
  have ob2 : (Value.slice (some ⟨g, 0, none⟩) (l.set i y).length c).ownBlock.toList = [g] := rfl
  rw [ob] at nd hlt ⊢
  have hB : Blk w g cur.toList ty := by unfold Blk; rw [hh]
  obtain ⟨xs, f, e1, e2, e3, e4, e5⟩ := h1.rdAt (B := w.heap.size) (h1.lt) i x hi
  have hone := h1.ones hE xs (List.mem_of_getElem? e1)
  obtain ⟨u', rfl⟩ := List.length_eq_one_iff.1 hone
  have hu2 : w.cell? ⟨g, i, none⟩ = some u' := by
    have := e5 0 u' rfl
    rw [hE, Nat.mul_one, Nat.add_zero, ← ht, List.getElem?_take] at this
    split at this
    · exact hB.cell i (by simpa using this)
    · cases this
  obtain rfl : u = u' := Option.some.inj (hu.symm.trans hu2)
  obtain ⟨hy, hbut⟩ := h f e3
  have hsub := (sub_flatten fps i f e2).subset
  have hgn : g ∉ fps.flatten := by
    rw [List.singleton_append, List.nodup_cons] at nd
    exact nd.1
  have ndf : fps.flatten.Nodup := (List.nodup_append.1 nd).2.1
  have hgl : g < w.heap.size := (Array.getElem?_eq_some_iff.1 hh).1
  have hg' : w'.heap[g]? = w.heap[g]? := hbut.block g hgl (fun hb => hgn (hsub hb))
  refine ⟨[g] ++ fps.flatten, ⟨_, xss, fps, rfl, h1.but hbut i ndf e2 e1 hy, ⟨by rw [List.length_set]; exact hx, .inr ⟨g, c, cur, by rw [List.length_set], hg, by rw [hg']; exact hh, by rw [List.length_set]; exact hc, hm, hs, by rw [List.length_set]; exact ht⟩⟩, rfl⟩, nd, fun b hb => .inl hb, fun b hb => Nat.lt_of_lt_of_le (hlt b hb) hbut.size, hbut.mono fun b hb => List.mem_append_right _ (hsub hb)⟩

theorem flat_str : ∀ w cs x f, strE.ow w cs x f → f = [] := fun _ _ _ _ h => h.2
theorem flat_move : ∀ w cs x f, moveE.ow w cs x f → f = [] := by
  rintro w cs x f ⟨c1, c2, f1, f2, -, rfl, h1, h2⟩
  rw [h1.2, h2.2]
  rfl

/-- A text in a row. -/
theorem Star.setStr {w0 w : World} {ps : List Ob} {ty te : TypeId} {l : List (List ByteArray)} {g n c : Nat} (S : Star w0 w (oE (sliceE (sliceE strE te) ty) [.slice (some ⟨g, 0, none⟩) n c] l :: ps)) (i : Nat) (x : List ByteArray) (hi : l[i]? = some x) {rb rn rc : Nat} (hu : w.cell? ⟨g, i, none⟩ = some (.slice (some ⟨rb, 0, none⟩) rn rc)) (j : Nat) (y : ByteArray) (hy : y.size ≤ maxLen) :
    Star w0 (w.setCell ⟨rb, j, none⟩ (.string y)) (oE (sliceE (sliceE strE te) ty) [.slice (some ⟨g, 0, none⟩) n c] (l.set i (x.set j y)) :: ps) :=
  S.inner rfl i x hi hu fun f o => by
    obtain ⟨o2, rfl⟩ := ow_set1 (E := strE) rfl flat_str o j (u := .string y) (y := y) (fun _ => ⟨⟨rfl, hy⟩, rfl⟩)
    exact ⟨o2, (But.refl _ _).setCell (by simp) _⟩

/-- A move in a row. -/
theorem Star.setMove {w0 w : World} {ps : List Ob} {ty te : TypeId} {l : List (List Move)} {g n c : Nat} (S : Star w0 w (oE (sliceE (sliceE moveE te) ty) [.slice (some ⟨g, 0, none⟩) n c] l :: ps)) (i : Nat) (x : List Move) (hi : l[i]? = some x) {rb rn rc : Nat} (hu : w.cell? ⟨g, i, none⟩ = some (.slice (some ⟨rb, 0, none⟩) rn rc)) (j : Nat) (a b : Int) (ha : -9223372036854775808 ≤ a ∧ a ≤ 9223372036854775807) (hb : -9223372036854775808 ≤ b ∧ b ≤ 9223372036854775807) :
    Star w0 ((w.setCell ⟨rb, j * 2, none⟩ (.int .i64 a)).setCell ⟨rb, j * 2 + 1, none⟩ (.int .i64 b)) (oE (sliceE (sliceE moveE te) ty) [.slice (some ⟨g, 0, none⟩) n c] (l.set i (x.set j ⟨a, b⟩)) :: ps) :=
  S.inner rfl i x hi hu fun f o => by
    obtain ⟨o2, rfl⟩ := ow_set2 (E := moveE) rfl flat_move o j (u := .int .i64 a) (v := .int .i64 b) (y := ⟨a, b⟩) (fun _ => ⟨[_], [_], [], [], rfl, rfl, ⟨⟨rfl, ha⟩, rfl⟩, ⟨⟨rfl, hb⟩, rfl⟩⟩)
    exact ⟨o2, ((But.refl _ _).setCell (by simp) _).setCell (by simp) _⟩

end Go.Proofs.YtjochoghmpcgdaaDoor

/-
  Plain lemmas: append of a whole slice of one's own, at moves and texts; rows of a slice of slices (written by a program of this claim's own, gen_join.py).
-/
namespace Go.Proofs.YtjochoghmpcgdaaDoor
open Go.RowKit

theorem one_moves_ow : ∀ (w : World) (x : List Move) (cs : List Value) (f : List Nat), movesE.ow w cs x f → ∀ u, u ∈ cs → u.oneCell' = true := by
  intro w x cs f h u hu
  obtain ⟨v, rfl⟩ := one_of (Enc.rd_len _ (Enc.rd_ow _ h))
  obtain ⟨sa, sn, sc, rfl⟩ := ow_slice h
  have : u = .slice sa sn sc := by simpa using hu
  subst this; rfl

/-- append of a whole slice of one's own. -/
theorem stJ_MoveSS {w0 w : World} {ps : List Ob} {ops : Array Oper} {rest : List Oper} {o : Oper} {a : Act} {Q : Exit → Act → World → Prop} {s x : Operand} {v v2 : Value} {l l2 : List (List Move)}
    (S : Star w0 w (oE movessE [v] l :: oE movessE [v2] l2 :: ps)) (hgd : o.guard = none)
    (ho : o.op = .call { callee := .builtin .append, args := #[s, x], argTypes := #[25, 25] }) (hv : a.eval s = v) (hx : a.eval x = v2) (hlen : l.length + l2.length ≤ 1000000000000)
    (h : ∀ sa sn sc w', Star w0 w' (oE movessE [.slice sa sn sc] (l ++ l2) :: ps) → wpList Tryd.prog ops Q rest (a.put o.dst (.slice sa sn sc)) w') : wpList Tryd.prog ops Q (o :: rest) a w := by
  obtain ⟨B, fp, hh, d⟩ := S
  obtain ⟨p1, p2, p3⟩ := hh 0 _ rfl
  obtain ⟨q1, q2, q3⟩ := hh 1 _ rfl
  obtain ⟨css, fys, e1, e2, e3⟩ := srcS_own one_moves_ow q1
  have hsub : ∀ b, b ∈ fys.flatten → b ∈ fp 1 := fun b hb => by rw [e3]; exact List.mem_append_right _ hb
  have hnd : (fp 0 ++ fys.flatten).Nodup := by
    have d01 := d 0 1 (by omega) (by simp) (by simp)
    rw [e3] at q2
    exact Dj.nodup (fun b hb hb2 => d01 b hb (hsub b hb2)) p2 (List.nodup_append.1 q2).2.1
  refine appS_MoveSS hgd s x ho hv p1 e1 (by rw [hx]; exact e2) hnd hlen (fun v' w' fp' k1 k2 k3 k4 => ?_)
  obtain ⟨sa, sn, sc, rfl⟩ := ow_slice k1
  refine h sa sn sc w' ⟨B.trans (k4.below (fun b hb => (p3 b hb).1) B.size), fun i => match i with | 0 => fp' | i + 1 => fp (i + 2), fun i Q hQ => ?_, fun i j hij hi hj => ?_⟩
  · cases i with
    | zero =>
      obtain rfl : _ = Q := by simpa using hQ
      refine ⟨k1, k2, fun b hm => ⟨?_, Enc.ow_lt _ k1 b hm⟩⟩
      rcases k3 b hm with h1 | h1 | h1
      · exact (p3 b h1).1
      · exact (q3 b (hsub b h1)).1
      · have := B.size; omega
    | succ i =>
      have hQ' : ps[i]? = some Q := by simpa using hQ
      obtain ⟨h1, h2, h3⟩ := hh (i + 2) Q hQ'
      have hil := (List.getElem?_eq_some_iff.1 hQ').1
      refine ⟨Q.frame (fun b hm => k4.block b (h3 b hm).2 (fun hf => ?_)) h1, h2, fun b hm => ⟨(h3 b hm).1, Nat.lt_of_lt_of_le (h3 b hm).2 k4.size⟩⟩
      exact d 0 (i + 2) (by omega) (by simp) (by simpa using hil) b hf hm
  · have hd0 : ∀ i, i < ps.length → Dj fp' (fp (i + 2)) := by
      intro i hi b hb1 hb2
      rcases k3 b hb1 with h1 | h1 | h1
      · exact d 0 (i + 2) (by omega) (by simp) (by simpa using hi) b h1 hb2
      · exact d 1 (i + 2) (by omega) (by simp) (by simpa using hi) b (hsub b h1) hb2
      · have := ((hh (i + 2) _ (by rw [List.getElem?_cons_succ, List.getElem?_cons_succ]; exact List.getElem?_eq_getElem hi)).2.2 b hb2).2
        omega
    cases i with
    | zero =>
      cases j with
      | zero => exact absurd rfl hij
      | succ j => exact hd0 j (by simpa using hj)
    | succ i =>
      cases j with
      | zero => exact (hd0 i (by simpa using hi)).symm
      | succ j => exact d (i + 2) (j + 2) (by omega) (by simpa using hi) (by simpa using hj)

theorem one_strs_ow : ∀ (w : World) (x : List ByteArray) (cs : List Value) (f : List Nat), strsE.ow w cs x f → ∀ u, u ∈ cs → u.oneCell' = true := by
  intro w x cs f h u hu
  obtain ⟨v, rfl⟩ := one_of (Enc.rd_len _ (Enc.rd_ow _ h))
  obtain ⟨sa, sn, sc, rfl⟩ := ow_slice h
  have : u = .slice sa sn sc := by simpa using hu
  subst this; rfl

/-- append of a whole slice of one's own. -/
theorem stJ_StringSS {w0 w : World} {ps : List Ob} {ops : Array Oper} {rest : List Oper} {o : Oper} {a : Act} {Q : Exit → Act → World → Prop} {s x : Operand} {v v2 : Value} {l l2 : List (List ByteArray)}
    (S : Star w0 w (oE strssE [v] l :: oE strssE [v2] l2 :: ps)) (hgd : o.guard = none)
    (ho : o.op = .call { callee := .builtin .append, args := #[s, x], argTypes := #[28, 28] }) (hv : a.eval s = v) (hx : a.eval x = v2) (hlen : l.length + l2.length ≤ 1000000000000)
    (h : ∀ sa sn sc w', Star w0 w' (oE strssE [.slice sa sn sc] (l ++ l2) :: ps) → wpList Tryd.prog ops Q rest (a.put o.dst (.slice sa sn sc)) w') : wpList Tryd.prog ops Q (o :: rest) a w := by
  obtain ⟨B, fp, hh, d⟩ := S
  obtain ⟨p1, p2, p3⟩ := hh 0 _ rfl
  obtain ⟨q1, q2, q3⟩ := hh 1 _ rfl
  obtain ⟨css, fys, e1, e2, e3⟩ := srcS_own one_strs_ow q1
  have hsub : ∀ b, b ∈ fys.flatten → b ∈ fp 1 := fun b hb => by rw [e3]; exact List.mem_append_right _ hb
  have hnd : (fp 0 ++ fys.flatten).Nodup := by
    have d01 := d 0 1 (by omega) (by simp) (by simp)
    rw [e3] at q2
    exact Dj.nodup (fun b hb hb2 => d01 b hb (hsub b hb2)) p2 (List.nodup_append.1 q2).2.1
  refine appS_StringSS hgd s x ho hv p1 e1 (by rw [hx]; exact e2) hnd hlen (fun v' w' fp' k1 k2 k3 k4 => ?_)
  obtain ⟨sa, sn, sc, rfl⟩ := ow_slice k1
  refine h sa sn sc w' ⟨B.trans (k4.below (fun b hb => (p3 b hb).1) B.size), fun i => match i with | 0 => fp' | i + 1 => fp (i + 2), fun i Q hQ => ?_, fun i j hij hi hj => ?_⟩
  · cases i with
    | zero =>
      obtain rfl : _ = Q := by simpa using hQ
      refine ⟨k1, k2, fun b hm => ⟨?_, Enc.ow_lt _ k1 b hm⟩⟩
      rcases k3 b hm with h1 | h1 | h1
      · exact (p3 b h1).1
      · exact (q3 b (hsub b h1)).1
      · have := B.size; omega
    | succ i =>
      have hQ' : ps[i]? = some Q := by simpa using hQ
      obtain ⟨h1, h2, h3⟩ := hh (i + 2) Q hQ'
      have hil := (List.getElem?_eq_some_iff.1 hQ').1
      refine ⟨Q.frame (fun b hm => k4.block b (h3 b hm).2 (fun hf => ?_)) h1, h2, fun b hm => ⟨(h3 b hm).1, Nat.lt_of_lt_of_le (h3 b hm).2 k4.size⟩⟩
      exact d 0 (i + 2) (by omega) (by simp) (by simpa using hil) b hf hm
  · have hd0 : ∀ i, i < ps.length → Dj fp' (fp (i + 2)) := by
      intro i hi b hb1 hb2
      rcases k3 b hb1 with h1 | h1 | h1
      · exact d 0 (i + 2) (by omega) (by simp) (by simpa using hi) b h1 hb2
      · exact d 1 (i + 2) (by omega) (by simp) (by simpa using hi) b (hsub b h1) hb2
      · have := ((hh (i + 2) _ (by rw [List.getElem?_cons_succ, List.getElem?_cons_succ]; exact List.getElem?_eq_getElem hi)).2.2 b hb2).2
        omega
    cases i with
    | zero =>
      cases j with
      | zero => exact absurd rfl hij
      | succ j => exact hd0 j (by simpa using hj)
    | succ i =>
      cases j with
      | zero => exact (hd0 i (by simpa using hi)).symm
      | succ j => exact d (i + 2) (j + 2) (by omega) (by simpa using hi) (by simpa using hj)

theorem mix_get {α β : Type} (f g : α → β) (l : List α) (j : Nat) (hj : j < l.length) : ((l.take j).map f ++ (l.drop j).map g)[j]? = some (g l[j]) := by
  have h1 : ((l.take j).map f).length = j := by rw [List.length_map, List.length_take]; omega
  rw [List.getElem?_append_right (by omega), h1, Nat.sub_self, List.drop_eq_getElem_cons hj]
  rfl
theorem mix_set {α β : Type} (f g : α → β) (l : List α) (j : Nat) (hj : j < l.length) : ((l.take j).map f ++ (l.drop j).map g).set j (f l[j]) = (l.take (j + 1)).map f ++ (l.drop (j + 1)).map g := by
  have h1 : ((l.take j).map f).length = j := by rw [List.length_map, List.length_take]; omega
  rw [List.set_append_right _ _ (by omega), h1, Nat.sub_self, List.drop_eq_getElem_cons hj, List.take_succ_eq_append_getElem hj, List.map_append, List.map_cons, List.set_cons_zero, List.append_assoc]
  rfl
theorem mix_same {α β : Type} (f g : α → β) (l : List α) (j : Nat) (hj : j < l.length) (h : f l[j] = g l[j]) : (l.take (j + 1)).map f ++ (l.drop (j + 1)).map g = (l.take j).map f ++ (l.drop j).map g := by
  rw [List.drop_eq_getElem_cons hj, List.take_succ_eq_append_getElem hj, List.map_append, List.map_cons, List.append_assoc, h]
  rfl
theorem mix_len {α β : Type} (f g : α → β) (l : List α) (j : Nat) : ((l.take j).map f ++ (l.drop j).map g).length = l.length := by
  rw [List.length_append, List.length_map, List.length_map, List.length_take, List.length_drop]
  omega

theorem ow_slice0 {α : Type} {E : Enc α} {ty : TypeId} {w : World} {v : Value} {l : List α} {f : List Nat} (o : (sliceE E ty).ow w [v] l f) (hl : 0 < l.length) :
    ∃ g c, v = .slice (some ⟨g, 0, none⟩) l.length c ∧ l.length ≤ c ∧ c ≤ maxLen ∧ (∀ i, w.frozen? ⟨g, i, none⟩ = false) ∧ ∀ i x, l[i]? = some x → ∃ xs, E.rd w w.heap.size xs x ∧ (∃ f', E.ow w xs x f') ∧ ∀ j u, xs[j]? = some u → w.cell? ⟨g, i * E.size + j, none⟩ = some u := by
  obtain ⟨v', xss, fps, he, h1, h2, -⟩ := o
  simp only [List.cons.injEq, and_true] at he
  subst he
  obtain ⟨hx, h3⟩ := h2
  rcases h3 with ⟨-, h3⟩ | ⟨g, cap, cur, rfl, hg, hh, hc, hm, hs, ht⟩
  · omega
  have hB : Blk w g cur.toList ty := by unfold Blk; rw [hh]
  refine ⟨g, cap, rfl, hc, hm, hB.free, fun i x hi => ?_⟩
  obtain ⟨xs, f, e1, e2, e3, e4, e5⟩ := h1.rdAt (B := w.heap.size) (h1.lt) i x hi
  refine ⟨xs, e4, ⟨f, e3⟩, fun j u hu => ?_⟩
  have := e5 j u hu
  rw [← ht, List.getElem?_take] at this
  split at this
  · exact hB.cell _ (by simpa using this)
  · cases this

/-- A slice of slices of one's own, and one of its rows. -/
theorem Star.rows {w0 w : World} {ps : List Ob} (S : Star w0 w ps) (n : Nat) {α : Type} {E : Enc α} {ty te : TypeId} {v : Value} {l : List (List α)} (h : ps[n]? = some (oE (sliceE (sliceE E te) ty) [v] l)) (hl : 0 < l.length) :
    ∃ g c, v = .slice (some ⟨g, 0, none⟩) l.length c ∧ l.length ≤ c ∧ c ≤ maxLen ∧ (∀ i, w.frozen? ⟨g, i, none⟩ = false) ∧ ∀ i x, l[i]? = some x → 0 < x.length →
      ∃ rb rc, w.cell? ⟨g, i, none⟩ = some (.slice (some ⟨rb, 0, none⟩) x.length rc) ∧ x.length ≤ rc ∧ rc ≤ maxLen ∧ (∀ k, w.frozen? ⟨rb, k, none⟩ = false) ∧ ∀ k y, x[k]? = some y → ∃ ys, E.rd w w.heap.size ys y ∧ ∀ j u, ys[j]? = some u → w.cell? ⟨rb, k * E.size + j, none⟩ = some u := by
  obtain ⟨f, o⟩ := S.own n h
  obtain ⟨g, c, rfl, h1, h2, h3, h4⟩ := ow_slice0 o hl
  refine ⟨g, c, rfl, h1, h2, h3, fun i x hi hx => ?_⟩
  obtain ⟨xs, r1, ⟨f', o'⟩, r2⟩ := h4 i x hi
  obtain ⟨u, rfl⟩ := one_of (Enc.rd_len _ r1)
  obtain ⟨rb, rc, rfl, k1, k2, k3, k4⟩ := ow_slice0 o' hx
  refine ⟨rb, rc, ?_, k1, k2, k3, fun k y hy => ?_⟩
  · have := r2 0 _ rfl
    rwa [show (sliceE E te).size = 1 from rfl, Nat.mul_one, Nat.add_zero] at this
  · obtain ⟨ys, e1, -, e2⟩ := k4 k y hy
    exact ⟨ys, e1, e2⟩

theorem rd_move2 {w : World} {B : Nat} {cs : List Value} {m : Move} (h : moveE.rd w B cs m) : cs = [.int .i64 m.to, .int .i64 m.dir] ∧ (-9223372036854775808 ≤ m.to ∧ m.to ≤ 9223372036854775807) ∧ (-9223372036854775808 ≤ m.dir ∧ m.dir ≤ 9223372036854775807) := by
  obtain ⟨c1, c2, rfl, h1, h2⟩ := h
  obtain ⟨e1, b1⟩ := h1
  obtain ⟨e2, b2⟩ := h2
  exact ⟨by rw [e1, e2]; rfl, b1, b2⟩

theorem rd_s1p {α : Type} [Inhabited α] {E : Enc α} {ty : TypeId} {w : World} {B : Nat} {v : Value} {l : List α} (hs : E.size = 1) (h : (sliceE E ty).rd w B [v] l) (hl : 0 < l.length) :
    ∃ b o cap, v = .slice (some ⟨b, o, none⟩) l.length cap ∧ l.length ≤ cap ∧ cap ≤ 9223372036854775807 ∧
      ∀ k, k < l.length → ∃ vk, w.cell? ⟨b, o + k, none⟩ = some vk ∧ E.rd w B [vk] (l[k]?.getD default) := by
  obtain ⟨a, cap, rfl, h1, h2, -, h4⟩ := rd_slice1 hs h
  obtain ⟨b, o, v0, rfl, -, -, -⟩ := h4 0 hl
  refine ⟨b, o, cap, rfl, h1, h2, fun k hk => ?_⟩
  obtain ⟨b', o', vk, e, -, h6, h7⟩ := h4 k hk
  cases e
  exact ⟨vk, h6, h7⟩

end Go.Proofs.YtjochoghmpcgdaaDoor

/-
  Places met, in a map of the call's own (map[Place]int); lists of places.
-/
namespace Go.Proofs.YtjochoghmpcgdaaDoor
open Go.RowKit Go.Maps Go.WideMaps

theorem laidOutP : laidOutB Tryd.prog = true := by kernel_rfl
theorem rowPl : (96 : TypeId) < Tryd.prog.types.size := of_decide_eq_true (by kernel_rfl)
theorem pos_succP {n : Nat} (h : 0 < n) : ∃ m, n = m + 1 := ⟨n - 1, by omega⟩
theorem posPl : 0 < Tryd.prog.types.size := of_decide_eq_true (by kernel_rfl)
theorem sizePl : ∃ m, Tryd.prog.types.size = m + 1 := pos_succP posPl
theorem widePl : (match Tryd.prog.underlying 96 with | some (.array _ _) | some (.struct _) => true | _ => false) = true := by kernel_rfl
set_option maxRecDepth 100000 in
theorem lawPl : Keyed Tryd.prog 96 := Keyed.of_law (deep_law_laid laidOutP (m := 2) (by omega) rowPl (by kernel_rfl) widePl)
theorem undMapP : Tryd.prog.underlying 128 = some (.map 96 3) := by kernel_rfl
theorem undInt : Tryd.prog.underlying 3 = some (.int .i64) := by kernel_rfl
theorem undI64P : Tryd.prog.underlying 2 = some (.int .i64) := by kernel_rfl
theorem zeroInt (w : World) : (zeroValue 3).run Tryd.prog w = .ok (.int .i64 0) w := by kernel_rfl
theorem ktPl : Tryd.prog.keyType 96 = true := by kernel_rfl
theorem cellsPl : Tryd.prog.cellsOf 96 = 2 := by kernel_rfl
theorem cellsI64 : Tryd.prog.cellsOf 2 = 1 := by kernel_rfl

def plV (p q : Nat) : Value := .agg #[.int .i64 p, .int .i64 q]
def plL (p q : Nat) : Lit := .string (keyBytes [.int .i64 p, .int .i64 q])

theorem keyPl {p q : Nat} (hp : p < 1000000) (hq : q < 1000000) : keyOf Tryd.prog 96 (plV p q) = some (plL p q) := by
  have wp : (Lit.int .i64 (p : Int)).wf = true := WalkArith.wf_i64 (by omega)
  have wq : (Lit.int .i64 (q : Int)).wf = true := WalkArith.wf_i64 (by omega)
  obtain ⟨m, hm⟩ := sizePl
  have hu := Tryd.underlying96
  unfold keyOf plV plL
  simp only [hu]
  rw [if_pos (by simp [ktPl, Value.formed, hu, cellsPl]), hm]
  unfold Program.keyLits
  simp only [hu, Value.cells]
  rw [if_pos ⟨by rw [cellsPl]; rfl, by kernel_rfl⟩]
  simp [Program.keyLits, undI64P, wp, wq, cellsI64]

theorem plL_ne {p q p' q' : Nat} (hp : p < 1000000) (hq : q < 1000000) (hp' : p' < 1000000) (hq' : q' < 1000000) (h : (p, q) ≠ (p', q')) : plL p q ≠ plL p' q' := fun e => by
  have h1 := keyPl hp hq
  have h2 := keyPl hp' hq'
  rw [← e] at h2
  have h3 := lawPl.inj h1 h2
  unfold plV at h3
  simp only [Value.agg.injEq, Array.mk.injEq, List.cons.injEq, Value.int.injEq, true_and, and_true] at h3
  exact h (Prod.ext (by omega) (by omega))

/-- Block b is a map that holds just these places. -/
def MetIs (w : World) (b : Nat) (L : List Pl) : Prop :=
  ∃ D : DataW Unit, w.ownsMap Tryd.prog 96 (plainElem Tryd.prog 3) b L.length D ∧ ∀ p q : Nat, p < 1000000 → q < 1000000 → Maps.has D (plL p q) = L.contains (p, q)

def oMet (b : Nat) (L : List Pl) : Ob := ⟨fun w fp => MetIs w b L ∧ fp = [b], fun {w w' fp} hf h => by
  obtain ⟨⟨D, ⟨es, clock, hb, F, hs, hD⟩, h2⟩, rfl⟩ := h
  exact ⟨⟨D, ⟨es, clock, (hf b (by simp)).trans hb, F, hs, hD⟩, h2⟩, rfl⟩⟩

theorem Star.allocMet {w0 w : World} {ps : List Ob} (S : Star w0 w ps) : Star w0 (w.alloc (.map #[] 0)) (oMet w.heap.size [] :: ps) :=
  S.push (P := oMet w.heap.size []) (f := [w.heap.size]) ((Below.refl _ _).alloc (Nat.le_refl _) _) ⟨⟨.map [], World.ownsMap_made _ _ _ _, fun p q _ _ => rfl⟩, rfl⟩ (by simp) (fun b hb => by rw [List.mem_singleton.1 hb]; exact Nat.le_refl _) (fun b hb => by rw [List.mem_singleton.1 hb, World.size_alloc]; exact Nat.lt_succ_self _)

theorem Star.metIs {w0 w : World} {ps : List Ob} (S : Star w0 w ps) (n : Nat) {b : Nat} {L : List Pl} (h : ps[n]? = some (oMet b L)) : MetIs w b L := by
  obtain ⟨-, fp, hh, -⟩ := S
  exact ((hh n _ h).1).1

theorem MetIs.put {w : World} {b : Nat} {L : List Pl} (h : MetIs w b L) {p q : Nat} (hp : p < 1000000) (hq : q < 1000000) (hl : L.length < 1000000000000) (v : Nat) (hv : v < 1000000000000) :
    ∃ w', (Instr.mapUpdate 128 (.map (some b)) (plV p q) (.int .i64 v)).run Tryd.prog w = .ok () w' ∧ MetIs w' b (L ++ [(p, q)]) ∧ w.grownBy w' (some b) := by
  obtain ⟨D, h1, h2⟩ := h
  obtain ⟨w', r1, r2, r3⟩ := h1.update lawPl undMapP (by unfold maxLen; omega) (keyPl hp hq) (plainElem_int undInt (show (Lit.int .i64 (v : Int)).wf = true from WalkArith.wf_i64 (by omega)))
  refine ⟨w', r1, ⟨_, by rw [List.length_append]; exact r2, fun p' q' hp' hq' => ?_⟩, r3⟩
  have hm : Maps.IsMap D := by
    obtain ⟨es, clock, -, -, -, rfl⟩ := h1
    exact ⟨_, rfl⟩
  by_cases he : (p', q') = (p, q)
  · cases he
    rw [Maps.has_put_same hm (lawPl.key (keyPl hp hq))]
    simp
  · rw [Maps.has_put_other (plL_ne hp' hq' hp hq he), h2 p' q' hp' hq']
    rw [Bool.eq_iff_iff]
    simp only [List.contains_eq_mem, decide_eq_true_eq, List.mem_append, List.mem_singleton]
    constructor
    · intro h; exact .inl h
    · rintro (h | h)
      · exact h
      · exact absurd h he

theorem MetIs.look {w : World} {b : Nat} {L : List Pl} (h : MetIs w b L) {p q : Nat} (hp : p < 1000000) (hq : q < 1000000) :
    ∃ c : Int, (Instr.lookup 128 (.map (some b)) (plV p q) true).run Tryd.prog w = .ok (.tuple #[.int .i64 c, .bool (L.contains (p, q))]) w := by
  obtain ⟨D, h1, h2⟩ := h
  obtain ⟨v, ps, hrun, hv⟩ := h1.look_ok lawPl undMapP (zeroInt w) (plainElem_int undInt (by decide)) (keyPl hp hq)
  rw [h2 p q hp hq] at hrun
  obtain ⟨c, rfl, -, -⟩ := plainElem_int_inv undInt hv
  exact ⟨c, hrun⟩

/-- The map is written: all else that the call holds is as it was. -/
theorem Star.putMet {w0 w w' : World} {ps : List Ob} {b : Nat} {L L' : List Pl} (S : Star w0 w (oMet b L :: ps)) (h : MetIs w' b L') (hg : w.grownBy w' (some b)) : Star w0 w' (oMet b L' :: ps) :=
  S.upd fun f hf _ hlt => ⟨f, ⟨h, hf.2⟩, by rw [hf.2]; simp, fun x hx => .inl hx, fun x hx => by
    rw [hf.2] at hx
    rw [List.mem_singleton.1 hx]
    obtain ⟨D, h1, -⟩ := h
    exact h1.lt, by
    rw [hf.2]
    exact ⟨hg.os, hg.tape, hg.output, hg.size, fun i hi hn => hg.block i hi (fun e => hn (by simp at e; simp [e]))⟩⟩

theorem stp_put {w0 w : World} {ps : List Ob} {ops : Array Oper} {rest : List Oper} {o : Oper} {a : Act} {Q : Exit → Act → World → Prop} {m x v : Operand} {b p q n : Nat} {L : List Pl}
    (S : Star w0 w (oMet b L :: ps)) (hg : o.guard = none) (ho : o.op = .mapUpdate 128 m x v) (hm : a.eval m = .map (some b)) (hx : a.eval x = plV p q) (hv : a.eval v = .int .i64 n)
    (hp : p < 1000000) (hq : q < 1000000) (hl : L.length < 1000000000000) (hn : n < 1000000000000) (h : ∀ w', Star w0 w' (oMet b (L ++ [(p, q)]) :: ps) → wpList Tryd.prog ops Q rest (a.put o.dst undef) w') : wpList Tryd.prog ops Q (o :: rest) a w := by
  refine wpList_plain hg fun K' hK' => ?_
  obtain ⟨w', hrun, r1, r2⟩ := (S.metIs 0 rfl).put hp hq hl n hn
  unfold Oper.wp
  simp [execOp, ho, hm, hx, hv, hrun, Result.andThen]
  exact hK' _ _ (h w' (S.putMet r1 r2))

theorem stp_look {w0 w : World} {ps : List Ob} {ops : Array Oper} {rest : List Oper} {o : Oper} {a : Act} {Q : Exit → Act → World → Prop} {m x : Operand} {b p q : Nat} {L : List Pl}
    (S : Star w0 w ps) (n : Nat) (hn : ps[n]? = some (oMet b L)) (hg : o.guard = none) (ho : o.op = .lookup 128 m x true) (hm : a.eval m = .map (some b)) (hx : a.eval x = plV p q)
    (hp : p < 1000000) (hq : q < 1000000) (h : ∀ c : Int, wpList Tryd.prog ops Q rest (a.put o.dst (.tuple #[.int .i64 c, .bool (L.contains (p, q))])) w) : wpList Tryd.prog ops Q (o :: rest) a w := by
  refine wpList_plain hg fun K' hK' => ?_
  obtain ⟨c, hrun⟩ := (S.metIs n hn).look hp hq
  unfold Oper.wp
  simp [execOp, ho, hm, hx, hrun, Result.andThen]
  exact hK' _ _ (by simpa using h c)

/-- Places in cells. -/
def plE : Enc Pl := viaE (pairE intE intE) fun p => ((p.1 : Int), (p.2 : Int))
abbrev plsE := sliceE plE 96
theorem rd_pl {w : World} {B : Nat} {cs : List Value} {x : Pl} (h : plE.rd w B cs x) : cs = [.int .i64 (x.1 : Nat), .int .i64 (x.2 : Nat)] := by
  obtain ⟨c1, c2, rfl, h1, h2⟩ := h
  rw [h1.1, h2.1]; rfl
theorem ow_pl {x : Pl} (h1 : x.1 < 1000000) (h2 : x.2 < 1000000) (w : World) : plE.ow w [.int .i64 (x.1 : Nat), .int .i64 (x.2 : Nat)] x [] := by
  have b1 : -9223372036854775808 ≤ (x.1 : Int) ∧ (x.1 : Int) ≤ 9223372036854775807 := ⟨by omega, by omega⟩
  have b2 : -9223372036854775808 ≤ (x.2 : Int) ∧ (x.2 : Int) ≤ 9223372036854775807 := ⟨by omega, by omega⟩
  exact ⟨[_], [_], [], [], rfl, rfl, ⟨⟨rfl, b1⟩, rfl⟩, ⟨⟨rfl, b2⟩, rfl⟩⟩

theorem inf_PlS : (Tryd.prog.info? 96).map (fun i => (i.zero, i.size, i.bytes)) = some (some (.agg #[.int .i64 0, .int .i64 0]), 2, 16) := by kernel_rfl

theorem app1_PlS {w : World} {ops : Array Oper} {rest : List Oper} {o : Oper} {a : Act} {Q : Exit → Act → World → Prop} (hgd : o.guard = none) (s x : Operand)
    (ho : o.op = .call { callee := .builtin .append, args := #[s, x], argTypes := #[89, 89] }) {v : Value} {l : List _} {fp : List Nat} (hv : a.eval s = v) (hown : (sliceE plE 96).ow w [v] l fp) (hn : fp.Nodup)
    {g c : Nat} (hx : a.eval x = .slice (some ⟨g, 0, none⟩) 1 c) {y : _} {cs : List Value} {fy : List Nat} (hc : ∀ j u, cs[j]? = some u → w.cell? ⟨g, j, none⟩ = some u) (h1 : ∀ u, u ∈ cs → u.oneCell' = true) (hy : (plE).ow w cs y fy)
    (hny : fy.Nodup) (hd : ∀ b, b ∈ fy → b ∉ fp) (hlen : l.length ≤ 1000000000000)
    (h : ∀ v' w' fp', (sliceE plE 96).ow w' [v'] (l ++ [y]) fp' → fp'.Nodup → (∀ b, b ∈ fp' → b ∈ fp ∨ b ∈ fy ∨ w.heap.size ≤ b) → But fp w w' → wpList Tryd.prog ops Q rest (a.put o.dst v') w') : wpList Tryd.prog ops Q (o :: rest) a w := by
  obtain ⟨i0, hi, hz0, hz1, hz2⟩ := info_parts inf_PlS
  exact wpList_append_one (E := plE) (ty := 96) hgd s x _ ho i0 _ _ Tryd.underlying89 hi hz0 hz1 hz2 rfl (by decide) (by decide) hv hown hn hx hc h1 hy hny hd hlen h

theorem st1_PlS {w0 w : World} {ps : List Ob} {ops : Array Oper} {rest : List Oper} {o : Oper} {a : Act} {Q : Exit → Act → World → Prop} {s x : Operand} {v : Value} {l : List Pl} {b c : Nat} {y : Pl} {cs : List Value}
    (S : Star w0 w (oE (sliceE plE 96) [v] l :: oE plE cs y :: ps)) (hgd : o.guard = none)
    (ho : o.op = .call { callee := .builtin .append, args := #[s, x], argTypes := #[89, 89] }) (hv : a.eval s = v)
    (hx : a.eval x = .slice (some ⟨b, 0, none⟩) 1 c) (hc : ∀ j u, cs[j]? = some u → w.cell? ⟨b, j, none⟩ = some u) (h1 : ∀ u, u ∈ cs → u.oneCell' = true) (hlen : l.length ≤ 1000000000000)
    (h : ∀ sa sn sc w', Star w0 w' (oE (sliceE plE 96) [.slice sa sn sc] (l ++ [y]) :: ps) → wpList Tryd.prog ops Q rest (a.put o.dst (.slice sa sn sc)) w') : wpList Tryd.prog ops Q (o :: rest) a w := by
  obtain ⟨B, fp, hh, d⟩ := S
  obtain ⟨p1, p2, p3⟩ := hh 0 _ rfl
  obtain ⟨q1, q2, q3⟩ := hh 1 _ rfl
  have d01 := d 1 0 (by omega) (by simp) (by simp)
  refine app1_PlS hgd s x ho hv p1 p2 hx hc h1 q1 q2 d01 hlen (fun v' w' fp' k1 k2 k3 k4 => ?_)
  obtain ⟨sa, sn, sc, rfl⟩ := ow_slice k1
  refine h sa sn sc w' ⟨B.trans (k4.below (fun b hb => (p3 b hb).1) B.size), fun i => match i with | 0 => fp' | i + 1 => fp (i + 2), fun i Q hQ => ?_, fun i j hij hi hj => ?_⟩
  · cases i with
    | zero =>
      obtain rfl : _ = Q := by simpa using hQ
      refine ⟨k1, k2, fun b hm => ⟨?_, Enc.ow_lt _ k1 b hm⟩⟩
      rcases k3 b hm with h1 | h1 | h1
      · exact (p3 b h1).1
      · exact (q3 b h1).1
      · have := B.size; omega
    | succ i =>
      have hQ' : ps[i]? = some Q := by simpa using hQ
      obtain ⟨h1, h2, h3⟩ := hh (i + 2) Q hQ'
      have hil := (List.getElem?_eq_some_iff.1 hQ').1
      refine ⟨Q.frame (fun b hm => k4.block b (h3 b hm).2 (fun hf => ?_)) h1, h2, fun b hm => ⟨(h3 b hm).1, Nat.lt_of_lt_of_le (h3 b hm).2 k4.size⟩⟩
      exact d 0 (i + 2) (by omega) (by simp) (by simpa using hil) b hf hm
  · have hd0 : ∀ i, i < ps.length → Dj fp' (fp (i + 2)) := by
      intro i hi b hb1 hb2
      rcases k3 b hb1 with h1 | h1 | h1
      · exact d 0 (i + 2) (by omega) (by simp) (by simpa using hi) b h1 hb2
      · exact d 1 (i + 2) (by omega) (by simp) (by simpa using hi) b h1 hb2
      · have := ((hh (i + 2) _ (by rw [List.getElem?_cons_succ, List.getElem?_cons_succ]; exact List.getElem?_eq_getElem hi)).2.2 b hb2).2
        omega
    cases i with
    | zero =>
      cases j with
      | zero => exact absurd rfl hij
      | succ j => exact hd0 j (by simpa using hj)
    | succ i =>
      cases j with
      | zero => exact (hd0 i (by simpa using hi)).symm
      | succ j => exact d (i + 2) (j + 2) (by omega) (by simpa using hi) (by simpa using hj)

theorem Star.pls {w0 w : World} {ps : List Ob} (S : Star w0 w ps) (n : Nat) {ty : TypeId} {v : Value} {l : List Pl} (h : ps[n]? = some (oE (sliceE plE ty) [v] l)) (hl : 0 < l.length) :
    ∃ b o cap, v = .slice (some ⟨b, o, none⟩) l.length cap ∧ l.length ≤ cap ∧ cap ≤ 9223372036854775807 ∧ ∀ k x, l[k]? = some x → w.cell? ⟨b, o + k * 2, none⟩ = some (.int .i64 (x.1 : Nat)) ∧ w.cell? ⟨b, o + k * 2 + 1, none⟩ = some (.int .i64 (x.2 : Nat)) := by
  obtain ⟨a, cap, hv, h1, h2, h3, h4⟩ := S.rd n h
  obtain rfl : v = .slice a l.length cap := by simpa using hv
  obtain ⟨b, o, xs, rfl, -, -, -⟩ := h4 0 l[0] (List.getElem?_eq_getElem hl)
  refine ⟨b, o, cap, rfl, h1, by simpa [maxLen] using h2, fun k x hx => ?_⟩
  obtain ⟨b', o', xs, e, -, e3, e4⟩ := h4 k x hx
  cases e
  obtain rfl := rd_pl e3
  have hs : plE.size = 2 := rfl
  rw [hs] at e4
  exact ⟨by have := e4 0 _ rfl; simpa [Nat.add_assoc] using this, by have := e4 1 _ rfl; simpa [Nat.add_assoc] using this⟩

end Go.Proofs.YtjochoghmpcgdaaDoor

/-
  What a call that hands back a turner has at its end.
-/
namespace Go.Proofs.YtjochoghmpcgdaaDoor
open Go.RowKit

theorem ow_Turner_zero (w : World) : turnE.ow w [.int .i64 0, .int .i64 0, .slice none 0 0] default [] :=
  ow_Turner (r := default) ⟨by decide, by decide⟩ ⟨by decide, by decide⟩ (ow_nil _ _ _)

theorem turn_done {w0 w : World} {ps : List Ob} {v2 : Value} {x : Turner} {c : Int} (S : Star w0 w (oE intE [.int .i64 x.letters] x.letters :: oE intE [.int .i64 x.start] x.start :: oE movessE [v2] x.moves :: ps)) :
    MakesC turnE (x, c) w0 (.returned (.tuple #[.agg #[.int .i64 x.letters, .int .i64 x.start, v2], .int .i64 c])) w := by
  have S1 := S.sel [1, 2, 0] (by decide) (by simp)
  have S1 : Star w0 w [oE intE [.int .i64 x.start] x.start, oE movessE [v2] x.moves, oE intE [.int .i64 x.letters] x.letters] := S1
  have S2 := S1.pair.sel [1, 0]
  have S2 : Star w0 w [oE intE [.int .i64 x.letters] x.letters, oE (pairE intE movessE) [.int .i64 x.start, v2] (x.start, x.moves)] := S2
  exact (S2.pair.via (F := fun r : Turner => (r.letters, r.start, r.moves)) x rfl).done (x := (x, c))

theorem bdm1 : (-9223372036854775808 : Int) ≤ -1 ∧ (-1 : Int) ≤ 9223372036854775807 := by decide

theorem ow_move {x y : Int} (h : -9223372036854775808 ≤ x ∧ x ≤ 9223372036854775807) (k : -9223372036854775808 ≤ y ∧ y ≤ 9223372036854775807) (w : World) : moveE.ow w [Value.int .i64 x, Value.int .i64 y] ⟨x, y⟩ [] :=
  ⟨[_], [_], [], [], rfl, rfl, ⟨⟨rfl, h⟩, rfl⟩, ⟨⟨rfl, k⟩, rfl⟩⟩

end Go.Proofs.YtjochoghmpcgdaaDoor

/-
  Plain lemmas: a region that draws its order and holds calls that make memory: what yields one value in every later world may be taken first, whatever else is left; the makers of memory alone are parted on.
-/
namespace Go.Proofs.YtjochoghmpcgdaaDoor
open Go.RowKit

section
variable {P : Program} {ops : Array Oper} {Q : Exit → Act → World → Prop} {md : Region.Mode}

def le (w w' : World) : Prop := Below w.heap.size w w'
theorem le.refl (w : World) : le w w := Below.refl _ _
theorem le.trans {w w1 w2 : World} (h : le w w1) (k : le w1 w2) : le w w2 := Below.trans h (Below.mono k h.size)

/-- Whatever an operation waits for has come up ahead of it. -/
def Closed (md : Region.Mode) (ops : Array Oper) (listed : Array Bool) : Prop := ∀ k o, ops[k]? = some o → listed.getD k false = true → ∀ e ∈ o.after, Region.binds md e = true → listed.getD e.on false = true

/-- It comes up when all others have. -/
def Closes (md : Region.Mode) (ops : Array Oper) (j : Nat) : Prop := ∀ listed : Array Bool, listed.size = ops.size → Closed md ops listed → j ∈ Region.ready md ops listed → ∀ i, i < ops.size → i ≠ j → listed.getD i false = true

def closesB (md : Region.Mode) (ops : Array Oper) : Bool :=
  (List.range (ops.size - 1)).all fun i => (List.range ops.size).any fun k => decide (i < k) && (match ops[k]? with | some o => o.after.any fun e => Region.binds md e && e.on == i | none => false)

theorem closes_of (h : closesB md ops = true) : Closes md ops (ops.size - 1) := by
  intro listed hs hc hr
  obtain ⟨-, oj, hoj, hall⟩ := mem_ready.1 hr
  have key : ∀ n i, ops.size - 1 - i ≤ n → i < ops.size - 1 → listed.getD i false = true := by
    intro n
    induction n with
    | zero => intro i h1 h2; omega
    | succ n ih =>
      intro i h1 h2
      have h3 := List.all_eq_true.1 h i (List.mem_range.2 h2)
      obtain ⟨k, hk, h4⟩ := List.any_eq_true.1 h3
      rw [Bool.and_eq_true, decide_eq_true_eq] at h4
      obtain ⟨hik, h4⟩ := h4
      cases ho : ops[k]? with
      | none => rw [ho] at h4; cases h4
      | some o =>
        rw [ho] at h4
        obtain ⟨e, he, hb⟩ := Array.any_eq_true'.1 h4
        rw [Bool.and_eq_true, beq_iff_eq] at hb
        rw [← hb.2]
        by_cases hkj : k = ops.size - 1
        · subst hkj
          rw [hoj] at ho
          obtain rfl := Option.some.inj ho
          exact hall e he hb.1
        · have hk' := List.mem_range.1 hk
          exact hc k o ho (ih k (by omega) (by omega)) e he hb.1
  intro i h1 h2
  exact key _ i (Nat.le_refl _) (by omega)

theorem Closed.add {listed : Array Bool} {i : Nat} (h : Closed md ops listed) (hi : i ∈ Region.ready md ops listed) : Closed md ops (listed.setIfInBounds i true) := by
  intro k o ho hk e he hb
  obtain ⟨-, oi, hoi, hall⟩ := mem_ready.1 hi
  by_cases hik : k = i
  · subst hik
    rw [hoi] at ho
    obtain rfl := Option.some.inj ho
    exact getD_set_true (hall e he hb)
  · rw [getD_set_ne false (Ne.symm hik)] at hk
    exact getD_set_true (h k o ho hk e he hb)

/-- Whatever order is picked from here on, in every world that holds what this one holds. -/
def wpM (P : Program) (md : Region.Mode) (ops : Array Oper) (Q : Exit → Act → World → Prop) : Nat → Array Bool → Act → World → Prop
  | 0, listed, a, w => Region.ready md ops listed = [] ∧ ∀ w', le w w' → Q .normal a w'
  | fuel + 1, listed, a, w =>
    (Region.ready md ops listed = [] → ∀ w', le w w' → Q .normal a w') ∧
    ∀ i ∈ Region.ready md ops listed, ∀ w', le w w' → wpOp P ops Q i (fun a' x => (Closes md ops i ∨ le w' x) ∧ wpM P md ops Q fuel (listed.setIfInBounds i true) a' x) a w'

theorem wpM_any : ∀ (fuel : Nat) (listed : Array Bool) (a : Act) (w : World), wpM P md ops Q fuel listed a w → wpAny P md ops Q fuel listed a w
  | 0, _, _, _, h => ⟨h.1, h.2 _ (le.refl _)⟩
  | fuel + 1, _, _, _, h => ⟨fun h0 => h.1 h0 _ (le.refl _), fun i hi => wpOp_mono (fun a' w' h' => wpM_any fuel _ a' w' h'.2) (h.2 i hi _ (le.refl _))⟩

theorem wpM_up : ∀ {fuel : Nat} {listed : Array Bool} {a : Act} {w w' : World}, wpM P md ops Q fuel listed a w → le w w' → wpM P md ops Q fuel listed a w'
  | 0, _, _, _, _, h, b => ⟨h.1, fun _ b' => h.2 _ (b.trans b')⟩
  | _ + 1, _, _, _, _, h, b => ⟨fun h0 _ b' => h.1 h0 _ (b.trans b'), fun i hi _ b' => h.2 i hi _ (b.trans b')⟩

/-- What came of an operation in the world x: this value, in that world; or a call that hands back this value and leaves a later world. -/
def YAt (P : Program) (x : World) (v : Value) : Result Next → Prop
  | .ok (.value u) x' => u = v ∧ x' = x
  | .ok .skip x' => v = undef ∧ x' = x
  | .ok (.enter f args) x' => x' = x ∧ Calls P f args x (fun e x'' => e = .returned v ∧ le x x'')
  | _ => False

def YieldsM (P : Program) (ops : Array Oper) (o : Oper) (v : Value) (a : Act) (w : World) : Prop :=
  (Region.wanted o (yielded ops a.tmps) = true ∧ ∀ x, le w x → YAt P x v ((execOp a.eval o).run P x)) ∨
  (Region.wanted o (yielded ops a.tmps) = false ∧ v = undef)

theorem YieldsM.up {o : Oper} {v : Value} {a : Act} {w w' : World} (h : YieldsM P ops o v a w) (b : le w w') : YieldsM P ops o v a w' := by
  rcases h with ⟨h1, h2⟩ | h
  · exact .inl ⟨h1, fun x hx => h2 x (b.trans hx)⟩
  · exact .inr h

theorem YieldsM.of_same {o : Oper} {v : Value} {a a' : Act} {w : World} (hy : YieldsM P ops o v a w) (he : execOp a'.eval o = execOp a.eval o)
    (hw : Region.wanted o (yielded ops a'.tmps) = Region.wanted o (yielded ops a.tmps)) : YieldsM P ops o v a' w := by
  unfold YieldsM at *
  rw [he, hw]
  exact hy

theorem YieldsM.wpOp {i : Nat} {o : Oper} {v : Value} {a : Act} {w x : World} (hi : ops[i]? = some o) (hy : YieldsM P ops o v a w) (hx : le w x)
    {K : Act → World → Prop} (h : ∀ x', le x x' → K (a.put o.dst v) x') : wpOp P ops Q i K a x := by
  unfold Go.wpOp
  simp only [hi]
  rcases hy with ⟨hw, hv⟩ | ⟨hw, rfl⟩
  · simp only [hw, if_true]
    have hv := hv x hx
    refine .inl ?_
    unfold Oper.wp
    generalize (execOp a.eval o).run P x = r at *
    cases r with
    | ok n x' =>
      cases n <;> simp only [YAt] at hv <;> simp only [Oper.upon]
      case value u => obtain ⟨rfl, rfl⟩ := hv; exact h _ (le.refl _)
      case skip => obtain ⟨rfl, rfl⟩ := hv; exact h _ (le.refl _)
      case enter f args =>
        obtain ⟨rfl, hc⟩ := hv
        exact hc.mono fun e x'' ⟨he, hb⟩ => by subst he; exact h _ hb
    | halt y x' => simp only [YAt] at hv
  · simp only [hw, Bool.false_eq_true, if_false]; exact h _ (le.refl _)

/-- Another operation, apart from it, comes up ahead of it. -/
theorem wpOp_putM {j : Nat} {oi oj : Oper} {v : Value} (hj : ops[j]? = some oj) (hap : oi.apart ops oj = true)
    (hsi : ∀ cs b, oi.op ≠ .select cs b) (hsj : ∀ cs b, oj.op ≠ .select cs b)
    (hQ : ∀ c a w, Q (.panic c) (a.put oi.dst v) w → Q (.panic c) a w) {K : Act → World → Prop} {a : Act} {w w0 : World}
    (hy : YieldsM P ops oi v a w0) (h : wpOp P ops Q j K (a.put oi.dst v) w) :
    wpOp P ops Q j (fun a' w' => YieldsM P ops oi v a' w0 ∧ K (a'.put oi.dst v) w') a w := by
  obtain ⟨h1, h2, h3⟩ := Oper.apart_spec hap
  have keep : ∀ (a : Act), YieldsM P ops oi v a w0 → ∀ u, YieldsM P ops oi v (a.put oj.dst u) w0 := fun a hy u =>
    hy.of_same (execOp_put oi hsi a oj.dst u h3) (wanted_put oi a oj.dst u h3)
  have keepD : ∀ d, YieldsM P ops oi v { a with defers := d :: a.defers } w0 := fun d => hy.of_same rfl rfl
  unfold Go.wpOp at *
  simp only [hj] at *
  rw [wanted_put oj a oi.dst v h1] at h
  split
  · rename_i hw
    simp only [hw, if_true] at h
    rcases h with h | ⟨hasks, hlets⟩
    case inr => exact .inr ⟨by unfold Oper.asks at *; rw [execOp_put oj hsj a oi.dst v h1] at hasks; exact hasks, hlets⟩
    refine .inl ?_
    unfold Oper.wp at *
    rw [execOp_put oj hsj a oi.dst v h1] at h
    generalize (execOp a.eval oj).run P w = r at *
    cases r with
    | ok n w' =>
      cases n <;> simp only [Oper.upon] at h ⊢
      case value u => exact ⟨keep a hy u, by rw [← Act.put_comm a v u h2]; exact h⟩
      case skip => exact ⟨keep a hy _, by rw [← Act.put_comm a v undef h2]; exact h⟩
      case defer d =>
        refine ⟨keep _ (keepD d) _, ?_⟩
        rw [← Act.put_comm _ v undef h2, ← Act.put_defers]
        exact h
      case enter f args =>
        refine Calls.mono h fun e w'' he => ?_
        cases e with
        | returned u => exact ⟨keep a hy u, by rw [← Act.put_comm a v u h2]; exact he⟩
        | panicked c => exact hQ _ _ _ he
        | outgrown => exact he
      case row row args => exact Rows.mono h fun u w'' he => ⟨keep a hy u, by rw [← Act.put_comm a v u h2]; exact he⟩
    | halt x w' =>
      cases x <;> simp only [Oper.upon] at h ⊢
      case panic u => exact hQ _ _ _ h
  · rename_i hw
    simp only [hw] at h
    exact ⟨keep a hy _, by rw [← Act.put_comm a v undef h2]; exact h⟩

theorem wpM_first {i : Nat} {oi : Oper} {v : Value} (hi : ops[i]? = some oi) (hsel : ∀ (j : Nat) (o : Oper) cs b, ops[j]? = some o → o.op ≠ .select cs b)
    (hQ : ∀ c a w, Q (.panic c) (a.put oi.dst v) w → Q (.panic c) a w) :
    ∀ (fuel : Nat) (listed : Array Bool) (a : Act) (w : World), listed.size = ops.size → Closed md ops listed →
      (∀ j oj, ops[j]? = some oj → j ≠ i → listed.getD j true = false → (∀ e ∈ oj.after, Region.binds md e = true → e.on ≠ i) → oi.apart ops oj = true) →
      i ∈ Region.ready md ops listed → YieldsM P ops oi v a w →
      wpM P md ops Q fuel (listed.setIfInBounds i true) (a.put oi.dst v) w → wpM P md ops Q (fuel + 1) listed a w := by
  intro fuel
  induction fuel with
  | zero =>
    intro listed a w hsz hcl _ hr hy H
    refine ⟨fun h => (by rw [h] at hr; cases hr), fun j hj x hx => ?_⟩
    by_cases hji : j = i
    · subst hji; exact hy.wpOp hi hx fun x' hx' => ⟨.inr hx', wpM_up H (hx.trans hx')⟩
    · have := ready_mono hj hji
      rw [H.1] at this
      cases this
  | succ fuel ih =>
    intro listed a w hsz hcl hfree hr hy H
    refine ⟨fun h => (by rw [h] at hr; cases hr), fun j hj x hx => ?_⟩
    by_cases hji : j = i
    · subst hji; exact hy.wpOp hi hx fun x' hx' => ⟨.inr hx', wpM_up H (hx.trans hx')⟩
    · have h1 := H.2 j (ready_mono hj hji) x hx
      obtain ⟨hjun, oj, hoj, hall⟩ := mem_ready.1 hj
      have hnot : ∀ e ∈ oj.after, Region.binds md e = true → e.on ≠ i := fun e he hb heq => by
        have h1 := hall e he hb
        have h0 := (mem_ready.1 hr).1
        rw [heq] at h1
        rcases Nat.lt_or_ge i listed.size with h' | h'
        · simp [h'] at h0 h1; rw [h0] at h1; cases h1
        · simp [Array.getElem?_eq_none h'] at h1
      have h2 := wpOp_putM hoj (hfree j oj hoj hji hjun hnot) (fun cs b => hsel i oi cs b hi) (fun cs b => hsel j oj cs b hoj) hQ hy h1
      have hfree' : ∀ k ok, ops[k]? = some ok → k ≠ i → (listed.setIfInBounds j true).getD k true = false →
          (∀ e ∈ ok.after, Region.binds md e = true → e.on ≠ i) → oi.apart ops ok = true := fun k ok hk hki hun hno => by
        refine hfree k ok hk hki ?_ hno
        by_cases hjk : j = k
        · subst hjk; exact hjun
        · rw [getD_set_ne true hjk] at hun; exact hun
      refine wpOp_mono (fun a' w' h3 => ?_) h2
      obtain ⟨h4, h5, h6⟩ := h3
      rcases h5 with h5 | h5
      · obtain ⟨hiun, oi', hoi', -⟩ := mem_ready.1 hr
        have hlt : i < ops.size := (Array.getElem?_eq_some_iff.1 hoi').1
        have := h5 listed hsz hcl hj i hlt (Ne.symm hji)
        have e : listed.getD i true = listed.getD i false := by
          rw [Array.getD_eq_getD_getElem?, Array.getD_eq_getD_getElem?, Array.getElem?_eq_getElem (by omega)]; rfl
        rw [e, this] at hiun
        cases hiun
      · refine ⟨.inr h5, ih (listed.setIfInBounds j true) a' w' (by simpa using hsz) (hcl.add hj) hfree' (ready_mono hr (Ne.symm hji)) (h4.up (hx.trans h5)) ?_⟩
        rw [Array.setIfInBounds_comm _ _ hji]
        exact h6

def closedB (md : Region.Mode) (ops : Array Oper) (listed : Array Bool) : Bool :=
  decide (listed.size = ops.size) && (List.range ops.size).all fun k => !listed.getD k false || (match ops[k]? with | some o => o.after.all fun e => !Region.binds md e || listed.getD e.on false | none => true)

theorem closed_of {listed : Array Bool} (h : closedB md ops listed = true) : listed.size = ops.size ∧ Closed md ops listed := by
  unfold closedB at h
  rw [Bool.and_eq_true, decide_eq_true_eq] at h
  refine ⟨h.1, fun k o ho hk e he hb => ?_⟩
  have h1 := List.all_eq_true.1 h.2 k (List.mem_range.2 (Array.getElem?_eq_some_iff.1 ho).1)
  simp only [ho] at h1
  rw [hk, Bool.not_true, Bool.false_or] at h1
  have h2 := Array.all_eq_true_iff_forall_mem.1 h1 e he
  rw [hb, Bool.not_true, Bool.false_or] at h2
  exact h2

/-- What may be taken now, by one look of the kernel. -/
def takeB (md : Region.Mode) (ops : Array Oper) (listed : Array Bool) (i : Nat) : Bool :=
  closedB md ops listed && (Region.free md ops listed i && ((Region.ready md ops listed).contains i && Region.noSelect ops))

theorem wpM_take {i : Nat} {oi : Oper} {v : Value} {fuel : Nat} {listed : Array Bool} {a : Act} {w : World} (hi : ops[i]? = some oi) (hB : takeB md ops listed i = true)
    (hQ : ∀ c a w, Q (.panic c) (a.put oi.dst v) w → Q (.panic c) a w) (hy : YieldsM P ops oi v a w)
    (h : wpM P md ops Q fuel (listed.setIfInBounds i true) (a.put oi.dst v) w) : wpM P md ops Q (fuel + 1) listed a w := by
  unfold takeB at hB
  rw [Bool.and_eq_true, Bool.and_eq_true, Bool.and_eq_true] at hB
  obtain ⟨h1, h2⟩ := closed_of hB.1
  exact wpM_first hi (Region.noSelect_spec hB.2.2.2) hQ fuel listed a w h1 h2 (Region.free_spec hi hB.2.1) (by simpa using hB.2.2.1) hy h

/-- An operation that makes no call. -/
def Op.callless : Op → Bool
  | .move _ | .assign _ | .pick .. | .load .. | .build .. | .binOp .. | .unOp .. | .convert .. | .slice .. | .fieldAddr .. | .field .. | .indexAddr .. | .index .. | .extract .. | .nilCheck .. => true
  | _ => false

theorem run_val {P : Program} {s : Sem Value} {w : World} : ∀ n w', (do let x ← s; pure (Next.value x) : Sem Next).run P w = .ok n w' → ∃ u, n = .value u := by
  intro n w' h
  rw [Sem.run_bind] at h
  cases hs : s.run P w with
  | ok u w2 => rw [hs] at h; simp only [Result.andThen] at h; cases h; exact ⟨u, rfl⟩
  | halt x w2 => rw [hs] at h; simp only [Result.andThen] at h; cases h

theorem run_cont {P : Program} {α : Type} {s : Sem α} {f : α → Sem Next} {w : World} {n : Next} {w' : World} (hf : ∀ a w, (f a).run P w = .ok n w' → ∃ u, n = .value u) (h : (s >>= f).run P w = .ok n w') : ∃ u, n = .value u := by
  rw [Sem.run_bind] at h
  cases hs : s.run P w with
  | ok u w2 => rw [hs] at h; exact hf u w2 h
  | halt x w2 => rw [hs] at h; simp only [Result.andThen] at h; cases h

theorem callless_value {ρ : Operand → Value} {o : Oper} (h : Op.callless o.op = true) {w w' : World} {n : Next} (hr : (execOp ρ o).run P w = .ok n w') : ∃ u, n = .value u := by
  obtain ⟨dst, op, type, pos, after, guard⟩ := o
  cases op <;> simp only [Op.callless] at h <;> first | cases h | skip
  all_goals simp only [execOp] at hr
  case move x => cases hr; exact ⟨_, rfl⟩
  case assign x => cases hr; exact ⟨_, rfl⟩
  case pick c x y =>
    rw [Sem.run_bind] at hr
    cases hs : (asBool (ρ c)).run P w with
    | ok u w2 => rw [hs] at hr; simp only [Result.andThen] at hr; cases hr; exact ⟨_, rfl⟩
    | halt x w2 => rw [hs] at hr; simp only [Result.andThen] at hr; cases hr
  case nilCheck x =>
    split at hr
    · cases hr
    · cases hr
    · cases hr
    · split at hr
      · cases hr
      · refine run_cont (fun a w h => run_cont (fun a w h => ?_) h) hr
        split at h
        · exact run_cont (fun a w h => by cases h; exact ⟨_, rfl⟩) h
        · cases h; exact ⟨_, rfl⟩
      · cases hr; exact ⟨_, rfl⟩
    · cases hr; exact ⟨_, rfl⟩
  all_goals exact run_val _ _ hr

/-- What reads, met in any later world. -/
theorem yieldsM_of_quiet {o : Oper} {a : Act} {w : World} {K : Act → Prop} (hc : Op.callless o.op = true) (h : if Region.wanted o (yielded ops a.tmps) then o.quiet P a (fun x => ∃ u, x = over w u) K else K (a.put o.dst undef)) :
    ∃ v, YieldsM P ops o v a w ∧ K (a.put o.dst v) := by
  by_cases hw : Region.wanted o (yielded ops a.tmps) = true
  · rw [if_pos hw] at h
    obtain ⟨v, h1, h2⟩ := h
    refine ⟨v, .inl ⟨hw, fun x hx => ?_⟩, h2⟩
    have h3 := h1 x ⟨x, (over_eq hx).symm⟩
    unfold Oper.quietAt at h3
    cases hr : (execOp a.eval o).run P x with
    | ok n x' =>
      obtain ⟨u, rfl⟩ := callless_value hc hr
      rw [hr] at h3
      exact ⟨h3.2, h3.1⟩
    | halt y x' => rw [hr] at h3; simp only [Oper.quietUpon] at h3
  · rw [if_neg hw] at h
    exact ⟨undef, .inr ⟨by simpa using hw, rfl⟩, h⟩

/-- What reads, taken first. -/
theorem wpM_read (i : Nat) {l : List Oper} {oi : Oper} {fuel : Nat} {listed : Array Bool} {a : Act} {w : World} (hi : l[i]? = some oi) (hc : Op.callless oi.op = true) (hB : takeB md l.toArray listed i = true)
    (hQ : ∀ c d v a w, Q (.panic c) (Act.put a d v) w → Q (.panic c) a w)
    (h : wpQuiet P l.toArray (fun x => ∃ u, x = over w u) (fun a' => wpM P md l.toArray Q fuel (listed.setIfInBounds i true) a' w) [oi] a) : wpM P md l.toArray Q (fuel + 1) listed a w := by
  obtain ⟨v, hy, hk⟩ := yieldsM_of_quiet (ops := l.toArray) (K := wpQuiet P l.toArray (fun x => ∃ u, x = over w u) (fun a' => wpM P md l.toArray Q fuel (listed.setIfInBounds i true) a' w) []) hc h
  exact wpM_take (by simpa using hi) hB (hQ · oi.dst v) hy hk

/-- A call whose value is known in every later world. -/
theorem wpM_call (i : Nat) {l : List Oper} {oi : Oper} (f : FuncId) (args : Array Value) (v : Value) {fuel : Nat} {listed : Array Bool} {a : Act} {w : World} (hi : l[i]? = some oi) (hB : takeB md l.toArray listed i = true)
    (hQ : ∀ c d v a w, Q (.panic c) (Act.put a d v) w → Q (.panic c) a w) (hw : Region.wanted oi (yielded l.toArray a.tmps) = true) (he : ∀ x, (execOp a.eval oi).run P x = .ok (.enter f args) x)
    (hc : ∀ x, le w x → Calls P f args x (Gives v x))
    (h : ∀ K : Act → Prop, (∀ a', wpM P md l.toArray Q fuel (listed.setIfInBounds i true) a' w → K a') → K (a.put oi.dst v)) : wpM P md l.toArray Q (fuel + 1) listed a w :=
  wpM_take (by simpa using hi) hB (hQ · oi.dst v) (.inl ⟨hw, fun x hx => by rw [he x]; exact ⟨rfl, hc x hx⟩⟩) (h _ fun _ h => h)

def AllM (P : Program) (md : Region.Mode) (ops : Array Oper) (Q : Exit → Act → World → Prop) (fuel : Nat) (listed : Array Bool) (a : Act) (w : World) (rs : List Nat) : Prop :=
  ∀ i ∈ rs, ∀ x, le w x → wpOp P ops Q i (fun a' x' => (Closes md ops i ∨ le x x') ∧ wpM P md ops Q fuel (listed.setIfInBounds i true) a' x') a x

theorem AllM.nil {fuel : Nat} {listed : Array Bool} {a : Act} {w : World} : AllM P md ops Q fuel listed a w [] := fun _ h => by cases h

theorem AllM.cons {l : List Oper} {fuel : Nat} {listed : Array Bool} {a : Act} {w : World} {i : Nat} {o : Oper} {rs : List Nat} (ho : l[i]? = some o)
    (h : ∀ x, le w x → ∀ K : Act → World → Prop, (∀ a' x', (Closes md l.toArray i ∨ le x x') → wpM P md l.toArray Q fuel (listed.setIfInBounds i true) a' x' → K a' x') → if Region.wanted o (yielded l.toArray a.tmps) = true then Oper.wp P o a x K Q else K (a.put o.dst undef) x)
    (hs : AllM P md l.toArray Q fuel listed a w rs) : AllM P md l.toArray Q fuel listed a w (i :: rs) := fun j hj x hx => by
  rcases List.mem_cons.1 hj with rfl | hj
  · exact wpOp_step (by simpa using ho) fun K hK => h x hx K fun a' x' h1 h2 => hK a' x' ⟨h1, h2⟩
  · exact hs j hj x hx

theorem wpM_ready (rs : List Nat) {fuel : Nat} {listed : Array Bool} {a : Act} {w : World} (hr : Region.ready md ops listed = rs) (hne : rs ≠ [])
    (h : AllM P md ops Q fuel listed a w rs) : wpM P md ops Q (fuel + 1) listed a w := ⟨fun h0 => absurd (hr ▸ h0) hne, hr ▸ h⟩

theorem wpM_done {fuel : Nat} {listed : Array Bool} {a : Act} {w : World} (hr : Region.ready md ops listed = []) (h : ∀ w', le w w' → Q .normal a w') : wpM P md ops Q fuel listed a w := by
  cases fuel with
  | zero => exact ⟨hr, h⟩
  | succ n => exact ⟨fun _ => h, by rw [hr]; simp⟩

theorem wp_region_m (n : Nat) {l : List Oper} {id : Nat} {a : Act} {w : World} (hm : P.follows .mixedOrders = true) (hn : l.length = n)
    (h : ∀ w', le w w' → wpM P .any l.toArray Q n (Array.replicate n false) a w') : (Code.region id l.toArray true).wp P Q a w := by
  subst hn
  exact wp_region_any hm (by simpa using wpM_any _ _ _ _ (h { w with drawn := w.drawn + 1 } ⟨rfl, rfl, rfl, Nat.le_refl _, fun _ _ => rfl⟩))

end

end Go.Proofs.YtjochoghmpcgdaaDoor

/-
  A move of the program's turner at a place of a word.
-/
namespace Go.Proofs.YtjochoghmpcgdaaDoor
open Go.RowKit Go.PlainAid

theorem letterOf_r (c : Nat) (z : Int) (w : World) (hz : z = 97 + (c : Int)) (hc : c ≤ 158) : Calls Tryd.prog 49 #[.int .u8 z] w (Keeps (.int .i64 (c : Int)) w) := by
  subst hz
  have w1 : IntKind.u8.wrap (97 + (c : Int) - 97) = (c : Int) := by
    have e : 97 + (c : Int) - 97 = (c : Int) := by omega
    rw [e]
    exact IntWalk.u8_in _ ⟨by omega, by omega⟩
  have w2 : IntKind.i64.wrap (c : Int) = (c : Int) := IntWalk.i64_in _ ⟨by omega, by omega⟩
  go_enter Tryd.func49, Tryd.ntmps49
  go_wp2
  go_ret
  exact ⟨by simp, rfl⟩

theorem bt_get (X : ByteArray) (k : Nat) (h : k < X.size) : bt X k = ((X.data.toList[k]?.getD 97).toNat : Int) := by
  have hl : k < X.data.toList.length := by rw [Array.length_toList]; exact h
  unfold bt
  rw [dif_pos h, List.getElem?_eq_getElem hl]
  rfl

set_option maxHeartbeats 1000000 in
theorem below_k (c : Nat) (hc : c ≤ 3) (X : ByteArray) (hx : wordOk c X.data.toList) (hX : X.size ≤ 1000) (a : Nat) (w : World) :
    Calls Tryd.prog 51 #[.int .i64 (c : Nat), .string X, .int .i64 (a : Nat)] w (Keeps (.int .i64 (belowN c X.data.toList a : Nat)) w) := by
  have hl : X.data.toList.length = X.size := by rw [Array.length_toList]; rfl
  by_cases h0 : a = 0
  · have e : belowN c X.data.toList a = c := by unfold belowN; rw [if_pos h0]
    rw [e, h0]
    clear e hl hx
    go_enter Tryd.func51, Tryd.ntmps51
    go_wp2
    go_ret
    exact ⟨rfl, rfl⟩
  have tA : ((a : Int) == 0) = false := by simpa using h0
  by_cases h1 : X.size < a
  · have e : belowN c X.data.toList a = c + 1 := by unfold belowN; rw [if_neg h0, if_pos (by rw [hl]; exact h1)]
    rw [e]
    have h1' : (X.size : Int) < (a : Int) := by omega
    have wa : IntKind.i64.wrap ((c : Int) + 1) = (c : Int) + 1 := IntWalk.i64_in _ ⟨by omega, by omega⟩
    clear e hl hx
    go_enter Tryd.func51, Tryd.ntmps51
    go_wp2
    go_ret
    exact ⟨by simp, rfl⟩
  have e : belowN c X.data.toList a = (X.data.toList[a - 1]?.getD 97).toNat - 97 := by unfold belowN; rw [if_neg h0, if_neg (by rw [hl]; exact h1)]
  have hk : a - 1 < X.data.toList.length := by omega
  have hm := hx _ (List.getElem_mem hk)
  rw [List.getElem?_eq_getElem hk, Option.getD_some] at e
  have hbt : bt X (a - 1) = 97 + ((belowN c X.data.toList a : Nat) : Int) := by
    rw [bt_get X (a - 1) (by omega), List.getElem?_eq_getElem hk, Option.getD_some, e]
    omega
  have hlt : belowN c X.data.toList a ≤ 158 := by omega
  obtain ⟨k, rfl⟩ : ∃ k, a = k + 1 := ⟨a - 1, by omega⟩
  obtain ⟨y, hy⟩ : ∃ y, y = belowN c X.data.toList (k + 1) := ⟨_, rfl⟩
  rw [Nat.add_sub_cancel, ← hy] at hbt
  rw [← hy] at hlt ⊢
  have hlo := fun w' => Lib.hid (letterOf_r y (bt X k) w' hbt hlt)
  have hb := get_bt X
  have h1' : ¬ (X.size : Int) < ((k : Int) + 1) := by omega
  have wa : IntKind.i64.wrap (((k + 1 : Nat) : Int) - 1) = (k : Int) := by rw [show ((k + 1 : Nat) : Int) - 1 = (k : Int) from by omega]; exact IntWalk.i64_in _ ⟨by omega, by omega⟩
  have wb : IntKind.i64.wrap ((k : Int) + 1 - 1) = (k : Int) := by rw [show (k : Int) + 1 - 1 = (k : Int) from by omega]; exact IntWalk.i64_in _ ⟨by omega, by omega⟩
  have i1 : (0 : Int) ≤ (k : Int) := by omega
  have i2 : (k : Int) < (X.size : Int) := by omega
  have hkn : k < X.size := by omega
  clear e hl hx hk hm hy hbt hlt h0 h1
  go_enter Tryd.func51, Tryd.ntmps51
  go_wp2_with fail
  refine (hlo _).out.mono ?_
  rintro e w2 ⟨rfl, rfl⟩
  go_wp2
  go_ret
  exact ⟨rfl, rfl⟩

end Go.Proofs.YtjochoghmpcgdaaDoor

/-
  ValidTurner of the specification: what it answers.
-/
namespace Go.Proofs.YtjochoghmpcgdaaDoor
open Go.RowKit

/-- What lies at a block's first cells. -/
structure Hd (w : World) (g : Nat) (cs : List Value) : Prop where
  lt : g < w.heap.size
  cell : ∀ (i : Nat) {v : Value}, cs[i]? = some v → w.cell? ⟨g, i, none⟩ = some v
theorem Hd.of {w w' : World} {g B : Nat} {cs : List Value} (h : Hd w g cs) (hb : Below B w w') (hB : g < B) : Hd w' g cs :=
  ⟨Nat.lt_of_lt_of_le h.lt hb.size, fun i v hv => by rw [hb.cell (p := ⟨g, i, none⟩) hB]; exact h.cell i hv⟩
theorem Hd.left {w : World} {g : Nat} {c1 c2 : List Value} (h : Hd w g (c1 ++ c2)) : Hd w g c1 :=
  ⟨h.lt, fun i v hv => h.cell i (by rw [List.getElem?_append_left (List.getElem?_eq_some_iff.1 hv).1]; exact hv)⟩
theorem Blk.hd {w : World} {g : Nat} {cs : List Value} {ty : TypeId} (h : Blk w g cs ty) : Hd w g cs := ⟨h.lt, fun i _ hv => h.cell i hv⟩

section
variable (v2 : Value) (p : Turner) (B g : Nat) (w : World) (hA0 : Hd w g [.int .i64 p.letters, .int .i64 p.start, v2]) (hh2 : movessE.rd w B [v2] p.moves)
include hA0 hh2

set_option maxHeartbeats 1000000 in
theorem l02Ok_no1 (h1 : within p.letters 1 3 = false) : Calls Tryd.prog 60 #[.pointer (some ⟨g, 0, none⟩)] w (Gives (.bool false) w) := by
  obtain ⟨a, cap, rfl, a1, a2, -, a4⟩ := rd_slice1 rfl hh2
  obtain ⟨n, hn⟩ : ∃ n, n = p.moves.length := ⟨_, rfl⟩
  have HN : Hid (n = p.moves.length) := Lib.hid hn
  rw [← hn] at hA0 hh2 a1 a4
  try rw [← hn]
  have T1 := Lib.hid h1
  have HA := Lib.hid hA0
  have c0 := hA0.cell 0 rfl
  have c1 := hA0.cell 1 rfl
  have c2 := hA0.cell 2 rfl
  have A4 := Lib.hid a4
  clear hh2 hn a4 hA0 h1
  go_enter Tryd.func60, Tryd.ntmps60
  go_wp2_with fail
  refine (l00In_is false _ _ _ _ T1.out).mono ?_
  rintro e w1 ⟨rfl, rfl⟩
  go_wp2
  go_ret
  exact ⟨rfl, Below.refl _ _⟩

set_option maxHeartbeats 1000000 in
theorem l02Ok_no2 (h1 : within p.letters 1 3 = true) (h2 : within p.moves.length 1 12 = false) : Calls Tryd.prog 60 #[.pointer (some ⟨g, 0, none⟩)] w (Gives (.bool false) w) := by
  obtain ⟨a, cap, rfl, a1, a2, -, a4⟩ := rd_slice1 rfl hh2
  obtain ⟨n, hn⟩ : ∃ n, n = p.moves.length := ⟨_, rfl⟩
  have HN : Hid (n = p.moves.length) := Lib.hid hn
  rw [← hn] at hA0 hh2 a1 a4 h2
  try rw [← hn]
  have T1 := Lib.hid h1
  have T2 := Lib.hid h2
  have HA := Lib.hid hA0
  have c0 := hA0.cell 0 rfl
  have c1 := hA0.cell 1 rfl
  have c2 := hA0.cell 2 rfl
  have A4 := Lib.hid a4
  clear hh2 hn a4 hA0 h1 h2
  go_enter Tryd.func60, Tryd.ntmps60
  go_wp2_with fail
  refine (l00In_is true _ _ _ _ T1.out).mono ?_
  rintro e w1 ⟨rfl, rfl⟩
  go_wp2_with fail
  refine (l00In_is false _ _ _ _ T2.out).mono ?_
  rintro e w3 ⟨rfl, rfl⟩
  go_wp2
  go_ret
  exact ⟨rfl, Below.refl _ _⟩

set_option maxHeartbeats 1000000 in
theorem l02Ok_no3 (h1 : within p.letters 1 3 = true) (h2 : within p.moves.length 1 12 = true) (h3 : within p.start 0 (p.moves.length - 1) = false) : Calls Tryd.prog 60 #[.pointer (some ⟨g, 0, none⟩)] w (Gives (.bool false) w) := by
  obtain ⟨a, cap, rfl, a1, a2, -, a4⟩ := rd_slice1 rfl hh2
  obtain ⟨n, hn⟩ : ∃ n, n = p.moves.length := ⟨_, rfl⟩
  have HN : Hid (n = p.moves.length) := Lib.hid hn
  rw [← hn] at hA0 hh2 a1 a4 h2 h3
  try rw [← hn]
  have T1 := Lib.hid h1
  have hn1 := within_true.1 h2
  have T2 := Lib.hid h2
  have T3 := Lib.hid h3
  have hw : IntKind.i64.wrap ((n : Int) - 1) = (n : Int) - 1 := IntWalk.i64_in _ ⟨by omega, by omega⟩
  have hl1 := within_true.1 h1
  have HA := Lib.hid hA0
  have c0 := hA0.cell 0 rfl
  have c1 := hA0.cell 1 rfl
  have c2 := hA0.cell 2 rfl
  have A4 := Lib.hid a4
  clear hh2 hn a4 hA0 h1 h2 h3
  go_enter Tryd.func60, Tryd.ntmps60
  go_wp2_with fail
  refine (l00In_is true _ _ _ _ T1.out).mono ?_
  rintro e w1 ⟨rfl, rfl⟩
  go_wp2_with fail
  refine (l00In_is true _ _ _ _ T2.out).mono ?_
  rintro e w3 ⟨rfl, rfl⟩
  go_wp2_with fail
  refine (l00In_is false _ _ _ _ T3.out).mono ?_
  rintro e w4 ⟨rfl, rfl⟩
  go_wp2
  go_ret
  exact ⟨rfl, Below.refl _ _⟩

set_option maxHeartbeats 1000000 in
theorem l02Ok_yes (h1 : within p.letters 1 3 = true) (h2 : within p.moves.length 1 12 = true) (h3 : within p.start 0 (p.moves.length - 1) = true) : Calls Tryd.prog 60 #[.pointer (some ⟨g, 0, none⟩)] w (Gives (.bool (p.moves.all fun row => mrowOk row p.moves.length p.letters)) w) := by
  obtain ⟨a, cap, rfl, a1, a2, -, a4⟩ := rd_slice1 rfl hh2
  obtain ⟨n, hn⟩ : ∃ n, n = p.moves.length := ⟨_, rfl⟩
  have HN : Hid (n = p.moves.length) := Lib.hid hn
  rw [← hn] at hA0 hh2 a1 a4 h2 h3
  try rw [← hn]
  have T1 := Lib.hid h1
  have hn1 := within_true.1 h2
  have T2 := Lib.hid h2
  have T3 := Lib.hid h3
  have hw : IntKind.i64.wrap ((n : Int) - 1) = (n : Int) - 1 := IntWalk.i64_in _ ⟨by omega, by omega⟩
  have hl1 := within_true.1 h1
  have HA := Lib.hid hA0
  have c0 := hA0.cell 0 rfl
  have c1 := hA0.cell 1 rfl
  have c2 := hA0.cell 2 rfl
  have A4 := Lib.hid a4
  clear hh2 hn a4 hA0 h1 h2 h3
  go_enter Tryd.func60, Tryd.ntmps60
  go_wp2_with fail
  refine (l00In_is true _ _ _ _ T1.out).mono ?_
  rintro e w1 ⟨rfl, rfl⟩
  go_wp2_with fail
  refine (l00In_is true _ _ _ _ T2.out).mono ?_
  rintro e w3 ⟨rfl, rfl⟩
  go_wp2_with fail
  refine (l00In_is true _ _ _ _ T3.out).mono ?_
  rintro e w4 ⟨rfl, rfl⟩
  go_wp2
  clear c0 c1 c2
  have hwl1 : IntKind.i64.wrap (p.letters + 2) = p.letters + 2 := IntWalk.i64_in _ ⟨by omega, by omega⟩
  go_loopw [4] (fun i wr => ∃ k : Nat, k ≤ n ∧ i = .int .i64 k ∧ Below w.heap.size w wr ∧ Hid (∀ i, i < k → mrowOk (p.moves[i]?.getD default) n p.letters = true)) (fun i _ => n - (intOf i).toNat)
  case atStart => exact ⟨0, by omega, rfl, Below.refl _ _, Lib.hid (fun i hi => absurd hi (by omega))⟩
  case round =>
    obtain ⟨k, hk, rfl, hB, HE⟩ := hrel
    have hA0 := HA.out.of hB HA.out.lt
    have c2z := hA0.cell 2 rfl
    clear hA0
    by_cases hlt : k < n
    case neg =>
      obtain rfl : k = n := by omega
      go_wp2
      go_ret
      have : (p.moves.all fun row => mrowOk row (k : Int) p.letters) = true := all_of_idx default _ _ (fun i hi => HE.out i (by rw [HN.out]; exact hi))
      exact ⟨by rw [this]; rfl, hB⟩
    obtain ⟨b, o, vk, rfl, -, hc, hr⟩ := A4.out k hlt
    have g1 := (hB.cell (World.block_lt_of_cell? w _ hc)).trans hc
    have HG := Lib.hid hc
    have R0 := Lib.hid hr; clear hr hc
    obtain ⟨row, hrow⟩ : ∃ x, x = p.moves[k]?.getD default := ⟨_, rfl⟩
    rw [← hrow] at R0
    have HROW := Lib.hid hrow; clear hrow
    obtain ⟨ra, rcap, rfl, r1, r2, -, r4⟩ := rd_movesE R0.out
    clear R0
    have R4 := Lib.hid r4; clear r4
    have hA := HA.out.of hB HA.out.lt
    have c0 := hA.cell 0 rfl
    have c2 := hA.cell 2 rfl
    have lA := hA.lt
    clear hA
    have HBr := Lib.hid hB; clear hB
    by_cases hlen : (row.length : Int) = p.letters + 2
    case neg =>
      have hb : ((row.length : Int) != p.letters + 2) = true := by simpa using hlen
      have hno := Lib.hid (show mrowOk row n p.letters = false by unfold mrowOk; rw [decide_eq_false hlen]; rfl)
      clear hlen
      go_wp2
      go_quiet (fail)
      go_wp2
      go_ret
      have : (p.moves.all fun row => mrowOk row (n : Int) p.letters) = false := all_not_idx default _ _ k (by rw [← HN.out]; exact hlt) (by rw [← HROW.out]; exact hno.out)
      exact ⟨by rw [this]; rfl, below_drewN HBr.out _⟩
    have hb : ((row.length : Int) != p.letters + 2) = false := by simpa using hlen
    have Hlen := Lib.hid hlen
    have hrl : row.length ≤ 5 := by omega
    have hrl' : 2 ≤ row.length := by omega
    go_wp2
    go_quiet (fail)
    go_wp2
    clear c0 c2 lA hb g1
    obtain ⟨m, hm⟩ : ∃ m, m = row.length := ⟨_, rfl⟩
    rw [← hm] at hrl hrl' R4 hlen HG r1 ⊢
    have HM := Lib.hid hm; clear hm
    go_loopw [5] (fun i wr => ∃ c : Nat, c ≤ m ∧ i = .int .i64 c ∧ Below w.heap.size w wr ∧ Hid (∀ i, i < c → moveOk (row[i]?.getD default) n p.letters (i : Int) = true)) (fun i _ => m - (intOf i).toNat)
    case atStart => exact ⟨0, by omega, rfl, below_drewN HBr.out _, Lib.hid (fun i hi => absurd hi (by omega))⟩
    case round =>
      obtain ⟨c, hc, rfl, hB, HC⟩ := hrel
      have hA := HA.out.of hB HA.out.lt
      have c0 := hA.cell 0 rfl
      have c2 := hA.cell 2 rfl
      have lA := hA.lt
      clear hA
      by_cases hcm : c < m
      case neg =>
        obtain rfl : c = m := by omega
        have hyes : Hid (mrowOk row n p.letters = true) := Lib.hid (by unfold mrowOk; rw [decide_eq_true Hlen.out, Bool.true_and]; exact range_all (fun i hi => HC.out i (by rw [HM.out]; exact hi)))
        have hcl : ¬ ((c : Int) < p.letters + 2) := by omega
        clear hlen
        go_wp2
        go_roundw
        case rel => exact ⟨k + 1, by omega, by go_num, hB, Lib.hid (fun i hi => by by_cases h : i = k; (subst h; rw [← HROW.out]; exact hyes.out); exact HE.out i (by omega))⟩
        case measure => simp [intOf]; omega
      have hcl : ((c : Int) < p.letters + 2) := by omega
      have Hlen2 := Lib.hid hlen; clear hlen
      obtain ⟨s, t, rfl, -, ⟨hp0, hp1⟩, -⟩ := R4.out c hcm
      have q0 := (hB.cell (World.block_lt_of_cell? w _ hp0)).trans hp0
      have q1 := (hB.cell (World.block_lt_of_cell? w _ hp1)).trans hp1
      have g1 := (hB.cell (World.block_lt_of_cell? w _ HG.out)).trans HG.out
      clear hp0 hp1
      have HB5 := Lib.hid hB; clear hB
      generalize hmv : row[c]?.getD default = mv at *
      have HMV := Lib.hid hmv; clear hmv
      have hov := cell_over wr
      have l1 : b < wr.heap.size := World.block_lt_of_cell? wr _ g1
      have l2 : s < wr.heap.size := World.block_lt_of_cell? wr _ q0
      cases hok : moveOk mv n p.letters (c : Int)
      case false =>
        have HOK := Lib.hid hok; clear hok
        go_wp2
        refine wp_region_over (by kernel_rfl) (by kernel_rfl) ?_
        repeat (go_big_quiet_step ((go_at_call 84; exact calls_over (l02Move_is false mv _ _ _ _ ⟨by omega, by omega⟩ ⟨by omega, by omega⟩ HOK.out))))
        refine wpQuiet_nil ?_
        intro w5 hw5
        have HB6 := Lib.hid (HB5.out.trans (hw5.mono HB5.out.size))
        clear hw5
        have hno : Hid (mrowOk row n p.letters = false) := Lib.hid (by unfold mrowOk; rw [decide_eq_true Hlen.out, Bool.true_and]; exact range_not (by rw [← HM.out]; exact hcm) (by rw [HMV.out]; exact HOK.out))
        go_wp2
        go_ret
        have : (p.moves.all fun row => mrowOk row (n : Int) p.letters) = false := all_not_idx default _ _ k (by rw [← HN.out]; exact hlt) (by rw [← HROW.out]; exact hno.out)
        exact ⟨by rw [this]; rfl, HB6.out⟩
      have HOK := Lib.hid hok; clear hok
      go_wp2
      refine wp_region_over (by kernel_rfl) (by kernel_rfl) ?_
      repeat (go_big_quiet_step ((go_at_call 84; exact calls_over (l02Move_is true mv _ _ _ _ ⟨by omega, by omega⟩ ⟨by omega, by omega⟩ HOK.out))))
      refine wpQuiet_nil ?_
      intro w5 hw5
      have HB6 := Lib.hid (HB5.out.trans (hw5.mono HB5.out.size))
      clear hw5
      go_wp2
      go_roundw
      case rel => exact ⟨c + 1, by omega, by go_num, HB6.out, Lib.hid (fun i hi => by by_cases h : i = c; (subst h; rw [HMV.out]; exact HOK.out); exact HC.out i (by omega))⟩
      case measure => simp [intOf]; omega

end

theorem l02Ok_any (v2 : Value) (p : Turner) (B g : Nat) (w : World) (hA0 : Hd w g [.int .i64 p.letters, .int .i64 p.start, v2]) (hh2 : movessE.rd w B [v2] p.moves) :
    Calls Tryd.prog 60 #[.pointer (some ⟨g, 0, none⟩)] w (Gives (.bool (validTurn p)) w) := by
  unfold validTurn
  cases h1 : within p.letters 1 3 with
  | false => rw [Bool.false_and]; exact l02Ok_no1 v2 p B g w hA0 hh2 h1
  | true =>
    rw [Bool.true_and]
    cases h2 : within p.moves.length 1 12 with
    | false => rw [Bool.false_and]; exact l02Ok_no2 v2 p B g w hA0 hh2 h1 h2
    | true =>
      rw [Bool.true_and]
      cases h3 : within p.start 0 (p.moves.length - 1) with
      | false => rw [Bool.false_and]; exact l02Ok_no3 v2 p B g w hA0 hh2 h1 h2 h3
      | true => rw [Bool.true_and]; exact l02Ok_yes v2 p B g w hA0 hh2 h1 h2 h3

end Go.Proofs.YtjochoghmpcgdaaDoor

/-
  The program's turner: a move, the verdict of a stop.
-/
namespace Go.Proofs.YtjochoghmpcgdaaDoor
open Go.RowKit

/-- What a run reads: the turner's cells. -/
structure RdT (t : Turner) (w : World) (ta : Nat) (tp tc : Nat) : Prop where
  ok : TurnOk t
  cap : t.moves.length ≤ tc ∧ tc ≤ 9223372036854775807
  rows : ∀ p, p < t.moves.length → ∃ rb ro rc, w.cell? ⟨ta, tp + p, none⟩ = some (.slice (some ⟨rb, ro, none⟩) (t.letters.toNat + 2) rc) ∧ t.letters.toNat + 2 ≤ rc ∧ rc ≤ 9223372036854775807 ∧
    ∀ k, k < t.letters.toNat + 2 → w.cell? ⟨rb, ro + k * 2, none⟩ = some (.int .i64 ((t.moves[p]?.getD default)[k]?.getD default).to) ∧ w.cell? ⟨rb, ro + k * 2 + 1, none⟩ = some (.int .i64 ((t.moves[p]?.getD default)[k]?.getD default).dir)

theorem RdT.of {t : Turner} {w w' : World} {ta tp tc : Nat} (h : RdT t w ta tp tc) (hb : Below w.heap.size w w') : RdT t w' ta tp tc := by
  have lt : ∀ {p : Addr} {v : Value}, w.cell? p = some v → w'.cell? p = some v := fun hc => (hb.cell (World.block_lt_of_cell? w _ hc)).trans hc
  refine ⟨h.ok, h.cap, fun p hp => ?_⟩
  obtain ⟨rb, ro, rc, k1, k2, k3, k4⟩ := h.rows p hp
  exact ⟨rb, ro, rc, lt k1, k2, k3, fun k hk => ⟨lt (k4 k hk).1, lt (k4 k hk).2⟩⟩

theorem rdT_of {t : Turner} {w : World} {B : Nat} {v2 : Value} (h : movessE.rd w B [v2] t.moves) (hv : validTurn t = true) : ∃ ta tp tc, v2 = .slice (some ⟨ta, tp, none⟩) t.moves.length tc ∧ RdT t w ta tp tc := by
  have K := turnOk_of hv
  obtain ⟨ta, tp, tc, rfl, h1, h2, h4⟩ := rd_s1p rfl h (by have := K.n1; omega)
  refine ⟨ta, tp, tc, rfl, K, ⟨h1, h2⟩, fun p hp => ?_⟩
  obtain ⟨vk, c1, r1⟩ := h4 p hp
  have hlen := (K.row _ (mem_getD (l := t.moves) (k := p) hp)).1
  have hl : (t.moves[p]?.getD default).length = t.letters.toNat + 2 := by have := K.l1; omega
  obtain ⟨ma, mc, rfl, m1, m2, -, m4⟩ := rd_movesE r1
  rw [hl] at m1 m4 c1
  obtain ⟨rb, ro, rfl, -, -, -⟩ := m4 0 (by omega)
  refine ⟨rb, ro, mc, c1, m1, m2, fun k hk => ?_⟩
  obtain ⟨sb, so, e, -, ⟨k1, k2⟩, -⟩ := m4 k hk
  simp only [Option.some.injEq, Addr.mk.injEq, and_true] at e
  obtain ⟨rfl, rfl⟩ := e
  exact ⟨k1, k2⟩

set_option maxHeartbeats 2000000 in
theorem move_any (t : Turner) (X : ByteArray) (p : Pl) (ta tp tc : Nat) (w : World) (h : RdT t w ta tp tc) (hx : wordOk t.letters.toNat X.data.toList) (hX : X.size ≤ 1000) (hp : p.1 < t.moves.length) (hp2 : p.2 < 100000) :
    Calls Tryd.prog 77 #[.agg #[.int .i64 t.letters, .int .i64 t.start, .slice (some ⟨ta, tp, none⟩) t.moves.length tc], .string X, .agg #[.int .i64 (p.1 : Nat), .int .i64 (p.2 : Nat)]] w (Gives (.agg #[.int .i64 (moveAt t X.data.toList p).to, .int .i64 (moveAt t X.data.toList p).dir]) w) := by
  have K := h.ok
  obtain ⟨rb, ro, rc, k1, k2, k3, k4⟩ := h.rows p.1 hp
  have hcap := h.cap.1
  have hbl := belowN_lt hx p.2
  have hmv : moveAt t X.data.toList p = (t.moves[p.1]?.getD default)[belowN t.letters.toNat X.data.toList p.2]?.getD default := rfl
  obtain ⟨c, hc⟩ : ∃ c : Nat, t.letters = c := ⟨t.letters.toNat, by have := K.l1; omega⟩
  have hc3 : c ≤ 3 := by have := K.l3; omega
  have hcn : t.letters.toNat = c := by omega
  rw [hcn] at k1 k2 k4 hbl hmv hx
  obtain ⟨y, hy⟩ : ∃ y, y = belowN c X.data.toList p.2 := ⟨_, rfl⟩
  obtain ⟨z0, z1⟩ := k4 _ hbl
  rw [← hmv, ← hy] at z0 z1
  obtain ⟨mv, hmv2⟩ : ∃ m, m = moveAt t X.data.toList p := ⟨_, rfl⟩
  rw [← hmv2] at z0 z1 ⊢
  have hbw := fun w' => Lib.hid (show Calls Tryd.prog 51 #[.int .i64 (c : Nat), .string X, .int .i64 (p.2 : Nat)] w' (Gives (.int .i64 (y : Nat)) w') from (below_k c hc3 X hx hX p.2 w').mono (by rintro e w2 ⟨rfl, rfl⟩; exact ⟨by rw [hy], Below.refl _ _⟩))
  have hyl : y < c + 2 := by rw [hy]; exact hbl
  rw [hc]
  obtain ⟨n, hn⟩ : ∃ n, n = t.moves.length := ⟨_, rfl⟩
  rw [← hn] at hp hcap ⊢
  have hn12 : n ≤ 12 := by rw [hn]; exact K.n12
  obtain ⟨p1, p2⟩ := p
  have S := (((Star.nil w).alloc (cs := #[.int .i64 (c : Nat), .int .i64 t.start, .slice (some ⟨ta, tp, none⟩) n tc]) (ty := 27)).alloc (cs := #[.int .i64 (p1 : Nat), .int .i64 (p2 : Nat)]) (ty := 96)).alloc (cs := #[.int .i64 0, .int .i64 0]) (ty := 80)
  rw [World.size_alloc, World.size_alloc] at S
  clear K h k4 hbl hmv hc hcn hx hy hmv2 hn
  go_enter Tryd.func77, Tryd.ntmps77
  go_wp2_with fail
  generalize hW : ((w.alloc _).alloc _).alloc _ = w0 at S ⊢
  clear hW
  refine wp_region_m 15 (by kernel_rfl) rfl ?_
  intro w4 b4
  replace S := S.step b4
  clear b4
  have BW := S.below
  have y0 := (BW.cell (World.block_lt_of_cell? w _ z0)).trans z0
  have y1 := (BW.cell (World.block_lt_of_cell? w _ z1)).trans z1
  have y2 := (BW.cell (World.block_lt_of_cell? w _ k1)).trans k1
  have d0 := (S.blk 2 rfl).cell 0 rfl
  have d2 := (S.blk 2 rfl).cell 2 rfl
  have e0 := (S.blk 1 rfl).cell 0 rfl
  have e1 := (S.blk 1 rfl).cell 1 rfl
  have gl1 := (S.blk 2 rfl).lt
  have gl2 := (S.blk 1 rfl).lt
  have gl3 : ta < w4.heap.size := World.block_lt_of_cell? w4 _ y2
  have gl4 : rb < w4.heap.size := World.block_lt_of_cell? w4 _ y0
  have hov := cell_over w4
  have j1 : (0 : Int) ≤ (p1 : Int) := by omega
  have j2 : (p1 : Int) < (n : Int) := by omega
  have j3 : (0 : Int) ≤ (y : Int) := by omega
  have j4 : (y : Int) < ((c + 2 : Nat) : Int) := by omega
  refine wpM_read 0 rfl rfl (by kernel_rfl) (fun _ d _ _ _ h => by cases d <;> exact h) ?_
  go_big_quiet_step (fail)
  refine wpQuiet_nil ?_
  refine wpM_read 1 rfl rfl (by kernel_rfl) (fun _ d _ _ _ h => by cases d <;> exact h) ?_
  go_big_quiet_step (fail)
  refine wpQuiet_nil ?_
  refine wpM_read 2 rfl rfl (by kernel_rfl) (fun _ d _ _ _ h => by cases d <;> exact h) ?_
  go_big_quiet_step (fail)
  refine wpQuiet_nil ?_
  refine wpM_read 3 rfl rfl (by kernel_rfl) (fun _ d _ _ _ h => by cases d <;> exact h) ?_
  go_big_quiet_step (fail)
  refine wpQuiet_nil ?_
  refine wpM_read 4 rfl rfl (by kernel_rfl) (fun _ d _ _ _ h => by cases d <;> exact h) ?_
  go_big_quiet_step (fail)
  refine wpQuiet_nil ?_
  refine wpM_read 5 rfl rfl (by kernel_rfl) (fun _ d _ _ _ h => by cases d <;> exact h) ?_
  go_big_quiet_step (fail)
  refine wpQuiet_nil ?_
  refine wpM_read 6 rfl rfl (by kernel_rfl) (fun _ d _ _ _ h => by cases d <;> exact h) ?_
  go_big_quiet_step (fail)
  refine wpQuiet_nil ?_
  refine wpM_read 7 rfl rfl (by kernel_rfl) (fun _ d _ _ _ h => by cases d <;> exact h) ?_
  go_big_quiet_step (fail)
  refine wpQuiet_nil ?_
  refine wpM_read 8 rfl rfl (by kernel_rfl) (fun _ d _ _ _ h => by cases d <;> exact h) ?_
  go_big_quiet_step (fail)
  refine wpQuiet_nil ?_
  refine wpM_read 9 rfl rfl (by kernel_rfl) (fun _ d _ _ _ h => by cases d <;> exact h) ?_
  go_big_quiet_step (fail)
  refine wpQuiet_nil ?_
  refine wpM_read 10 rfl rfl (by kernel_rfl) (fun _ d _ _ _ h => by cases d <;> exact h) ?_
  go_big_quiet_step (fail)
  refine wpQuiet_nil ?_
  refine wpM_call 11 51 #[.int .i64 (c : Nat), .string X, .int .i64 (p2 : Nat)] (.int .i64 (y : Nat)) rfl (by kernel_rfl) (fun _ d _ _ _ h => by cases d <;> exact h) rfl (fun x => by go_simp) (fun x _ => (hbw x).out) (fun K hK => ?_)
  go_simp
  refine hK _ ?_
  clear hK K
  refine wpM_read 12 rfl rfl (by kernel_rfl) (fun _ d _ _ _ h => by cases d <;> exact h) ?_
  go_big_quiet_step (fail)
  refine wpQuiet_nil ?_
  refine wpM_read 13 rfl rfl (by kernel_rfl) (fun _ d _ _ _ h => by cases d <;> exact h) ?_
  go_big_quiet_step (fail)
  refine wpQuiet_nil ?_
  clear y0 y1 y2 d0 d2 e0 e1 gl1 gl2 gl3 gl4 hov BW hbw
  refine wpM_ready [14] (by kernel_rfl) (by decide) (AllM.cons rfl (fun w5 b5 K hK => ?_) AllM.nil)
  replace S := S.step b5
  have a0 := (S.blk 0 rfl).cell 0 rfl
  have a1 := (S.blk 0 rfl).cell 1 rfl
  have af := (S.blk 0 rfl).free
  clear b5
  go_simp
  refine hK _ _ (.inl (closes_of (by kernel_rfl))) ?_
  clear hK K
  refine wpM_done (by kernel_rfl) (fun w6 b6 => ?_)
  generalize hW3 : (w5.setCell _ _).setCell _ _ = w7 at b6
  have S7 : Star w w7 [oB (w.heap.size + 1 + 1) [.int .i64 mv.to, .int .i64 mv.dir] 80] := by rw [← hW3]; exact (((S.set 0 _).set 1 _).sel [0])
  replace S := S7.step b6
  clear b6 hW3 a0 a1 af S7
  go_wp2
  have q0 := (S.blk 0 rfl).cell 0 rfl
  have q1 := (S.blk 0 rfl).cell 1 rfl
  exact bodyPost_ret (v := .agg #[.int .i64 mv.to, .int .i64 mv.dir]) (by simp [results, Tryd.results77, go_sem, q0, q1]) rfl (show Gives _ w _ _ from ⟨rfl, S.below⟩)

theorem verdictOfStop_any (m : Move) (w : World) : Calls Tryd.prog 79 #[.agg #[.int .i64 m.to, .int .i64 m.dir]] w (Gives (.int .i64 (if m.to = -1 then 1 else 2)) w) := by
  by_cases h : m.to = -1
  · have tA : (m.to == -1) = true := by simpa using h
    rw [if_pos h]
    clear h
    go_enter Tryd.func79, Tryd.ntmps79
    go_wp2
    go_ret
    exact ⟨rfl, (Below.refl _ _).alloc (Nat.le_refl _) _⟩
  · have tA : (m.to == -1) = false := by simpa using h
    rw [if_neg h]
    clear h
    go_enter Tryd.func79, Tryd.ntmps79
    go_wp2
    go_ret
    exact ⟨rfl, (Below.refl _ _).alloc (Nat.le_refl _) _⟩

end Go.Proofs.YtjochoghmpcgdaaDoor

/-
  A move of the specification's turner at a place of a word.
-/
namespace Go.Proofs.YtjochoghmpcgdaaDoor
open Go.RowKit Go.PlainAid

/-- A turner behind a pointer. -/
structure RdP (t : Turner) (w : World) (g : Nat) : Prop where
  get : ∃ ta tp tc, w.cell? ⟨g, 0, none⟩ = some (.int .i64 t.letters) ∧ w.cell? ⟨g, 1, none⟩ = some (.int .i64 t.start) ∧ w.cell? ⟨g, 2, none⟩ = some (.slice (some ⟨ta, tp, none⟩) t.moves.length tc) ∧ RdT t w ta tp tc

theorem RdP.of {t : Turner} {w w' : World} {g : Nat} (h : RdP t w g) (hb : Below w.heap.size w w') : RdP t w' g := by
  obtain ⟨ta, tp, tc, h1, h2, h3, h4⟩ := h.get
  have lt : ∀ {p : Addr} {v : Value}, w.cell? p = some v → w'.cell? p = some v := fun hc => (hb.cell (World.block_lt_of_cell? w _ hc)).trans hc
  exact ⟨ta, tp, tc, lt h1, lt h2, lt h3, h4.of hb⟩

set_option maxHeartbeats 2000000 in
theorem sbelow_any (t : Turner) (g : Nat) (X : ByteArray) (a : Nat) (w : World) (h : w.cell? ⟨g, 0, none⟩ = some (.int .i64 t.letters)) (hl1 : 1 ≤ t.letters) (hl3 : t.letters ≤ 3) (hx : wordOk t.letters.toNat X.data.toList) (hX : X.size ≤ 1000) (ha : a < X.size + 2) :
    Calls Tryd.prog 57 #[.pointer (some ⟨g, 0, none⟩), .string X, .int .i64 (a : Nat)] w (Keeps (.int .i64 (belowN t.letters.toNat X.data.toList a : Nat)) w) := by
  have hl : X.data.toList.length = X.size := by rw [Array.length_toList]; rfl
  obtain ⟨c, hc⟩ : ∃ c : Nat, t.letters = c := ⟨t.letters.toNat, by omega⟩
  have hcn : t.letters.toNat = c := by omega
  rw [hcn] at hx ⊢
  rw [hc] at h
  have hc3 : c ≤ 3 := by omega
  clear hc hcn hl1 hl3
  have gl := World.block_lt_of_cell? w _ h
  have wl : IntKind.i64.wrap ((X.size : Int) + 1) = (X.size : Int) + 1 := IntWalk.i64_in _ ⟨by omega, by omega⟩
  by_cases h0 : a = 0
  · have e : belowN c X.data.toList a = c := by unfold belowN; rw [if_pos h0]
    rw [e, h0]
    clear e hl hx
    go_enter Tryd.func57, Tryd.ntmps57
    go_wp2
    go_ret
    exact ⟨rfl, rfl⟩
  have tA : ((a : Int) == 0) = false := by simpa using h0
  by_cases h1 : a = X.size + 1
  · have e : belowN c X.data.toList a = c + 1 := by unfold belowN; rw [if_neg h0, if_pos (by rw [hl]; omega)]
    rw [e]
    have tB : ((a : Int) == (X.size : Int) + 1) = true := by rw [h1]; simp
    have wa : IntKind.i64.wrap ((c : Int) + 1) = (c : Int) + 1 := IntWalk.i64_in _ ⟨by omega, by omega⟩
    clear e hl hx h1
    go_enter Tryd.func57, Tryd.ntmps57
    go_wp2
    go_ret
    exact ⟨by simp, rfl⟩
  have tB : ((a : Int) == (X.size : Int) + 1) = false := by
    have : ¬ (a : Int) = (X.size : Int) + 1 := by omega
    simpa using this
  have e : belowN c X.data.toList a = (X.data.toList[a - 1]?.getD 97).toNat - 97 := by unfold belowN; rw [if_neg h0, if_neg (by rw [hl]; omega)]
  have hk : a - 1 < X.data.toList.length := by omega
  have hm := hx _ (List.getElem_mem hk)
  rw [List.getElem?_eq_getElem hk, Option.getD_some] at e
  have hbt : bt X (a - 1) = 97 + ((belowN c X.data.toList a : Nat) : Int) := by
    rw [bt_get X (a - 1) (by omega), List.getElem?_eq_getElem hk, Option.getD_some, e]
    omega
  have hlt : belowN c X.data.toList a ≤ 158 := by omega
  obtain ⟨k, rfl⟩ : ∃ k, a = k + 1 := ⟨a - 1, by omega⟩
  obtain ⟨y, hy⟩ : ∃ y, y = belowN c X.data.toList (k + 1) := ⟨_, rfl⟩
  rw [Nat.add_sub_cancel, ← hy] at hbt
  rw [← hy] at hlt ⊢
  have hb := get_bt X
  have wa : IntKind.i64.wrap (((k + 1 : Nat) : Int) - 1) = (k : Int) := by rw [show ((k + 1 : Nat) : Int) - 1 = (k : Int) from by omega]; exact IntWalk.i64_in _ ⟨by omega, by omega⟩
  have wb : IntKind.i64.wrap ((k : Int) + 1 - 1) = (k : Int) := by rw [show (k : Int) + 1 - 1 = (k : Int) from by omega]; exact IntWalk.i64_in _ ⟨by omega, by omega⟩
  have wc : IntKind.i64.wrap (bt X k) = 97 + (y : Int) := by rw [hbt]; exact IntWalk.i64_in _ ⟨by omega, by omega⟩
  have wd : IntKind.i64.wrap (97 + (y : Int) - 97) = (y : Int) := by rw [show 97 + (y : Int) - 97 = (y : Int) from by omega]; exact IntWalk.i64_in _ ⟨by omega, by omega⟩
  have we : IntKind.i64.wrap (y : Int) = (y : Int) := IntWalk.i64_in _ ⟨by omega, by omega⟩
  have i1 : (0 : Int) ≤ (k : Int) := by omega
  have i2 : (k : Int) < (X.size : Int) := by omega
  have hkn : k < X.size := by omega
  have wf : IntKind.i64.wrap ((k : Int) + 1) = (k : Int) + 1 := IntWalk.i64_in _ ⟨by omega, by omega⟩
  clear e hl hx hk hm hy hlt h0 h1 hbt
  go_enter Tryd.func57, Tryd.ntmps57
  go_wp2
  go_ret
  exact ⟨rfl, rfl⟩

set_option maxHeartbeats 2000000 in
theorem smove_any (t : Turner) (g : Nat) (X : ByteArray) (p : Pl) (w : World) (h : RdP t w g) (hx : wordOk t.letters.toNat X.data.toList) (hX : X.size ≤ 1000) (hp : p.1 < t.moves.length) (hp2 : p.2 < X.data.toList.length + 2) :
    Calls Tryd.prog 82 #[.pointer (some ⟨g, 0, none⟩), .string X, .agg #[.int .i64 (p.1 : Nat), .int .i64 (p.2 : Nat)]] w (Gives (.agg #[.int .i64 (moveAt t X.data.toList p).to, .int .i64 (moveAt t X.data.toList p).dir]) w) := by
  have hl : X.data.toList.length = X.size := by rw [Array.length_toList]; rfl
  obtain ⟨ta, tp, tc, c0, -, c2, hr⟩ := h.get
  have K := hr.ok
  obtain ⟨rb, ro, rc, k1, k2, k3, k4⟩ := hr.rows p.1 hp
  have hcap := hr.cap.1
  have hbl := belowN_lt hx p.2
  have hmv : moveAt t X.data.toList p = (t.moves[p.1]?.getD default)[belowN t.letters.toNat X.data.toList p.2]?.getD default := rfl
  obtain ⟨c, hc⟩ : ∃ c, c = t.letters.toNat := ⟨_, rfl⟩
  have hc3 : c ≤ 3 := by have := K.l3; omega
  obtain ⟨y, hy⟩ : ∃ y, y = belowN t.letters.toNat X.data.toList p.2 := ⟨_, rfl⟩
  rw [← hc] at k1 k2 k4 hbl
  obtain ⟨z0, z1⟩ := k4 _ (by rw [hc] at hbl ⊢; exact hbl)
  rw [← hmv, ← hy] at z0 z1
  obtain ⟨mv, hmv2⟩ : ∃ m, m = moveAt t X.data.toList p := ⟨_, rfl⟩
  rw [← hmv2] at z0 z1 ⊢
  have hyl : y < c + 2 := by rw [hy, hc]; rw [hc] at hbl; exact hbl
  have HB := Lib.hid (show ∀ w', Below w.heap.size w w' → Calls Tryd.prog 57 #[.pointer (some ⟨g, 0, none⟩), .string X, .int .i64 (p.2 : Nat)] w' (Gives (.int .i64 (y : Nat)) w') from fun w' hb => (sbelow_any t g X p.2 w' ((hb.cell (World.block_lt_of_cell? w _ c0)).trans c0) K.l1 K.l3 hx hX (by omega)).mono (by rintro e w2 ⟨rfl, rfl⟩; exact ⟨by rw [hy], Below.refl _ _⟩))
  obtain ⟨n, hn⟩ : ∃ n, n = t.moves.length := ⟨_, rfl⟩
  rw [← hn] at hp hcap c2
  have hn12 : n ≤ 12 := by rw [hn]; exact K.n12
  obtain ⟨p1, p2⟩ := p
  have S := ((Star.nil w).alloc (cs := #[.int .i64 (p1 : Nat), .int .i64 (p2 : Nat)]) (ty := 96)).alloc (cs := #[.int .i64 0, .int .i64 0]) (ty := 80)
  rw [World.size_alloc] at S
  clear K h hr k4 hbl hmv hc hx hy hmv2 hn c0 hl
  go_enter Tryd.func82, Tryd.ntmps82
  go_wp2_with fail
  generalize hW : (w.alloc _).alloc _ = w0 at S ⊢
  clear hW
  refine wp_region_m 16 (by kernel_rfl) rfl ?_
  intro w4 b4
  replace S := S.step b4
  clear b4
  have BW := S.below
  have y0 := (BW.cell (World.block_lt_of_cell? w _ z0)).trans z0
  have y1 := (BW.cell (World.block_lt_of_cell? w _ z1)).trans z1
  have y2 := (BW.cell (World.block_lt_of_cell? w _ k1)).trans k1
  have y3 := (BW.cell (World.block_lt_of_cell? w _ c2)).trans c2
  have e0 := (S.blk 1 rfl).cell 0 rfl
  have e1 := (S.blk 1 rfl).cell 1 rfl
  have gl1 : g < w4.heap.size := World.block_lt_of_cell? w4 _ y3
  have gl2 := (S.blk 1 rfl).lt
  have gl3 : ta < w4.heap.size := World.block_lt_of_cell? w4 _ y2
  have gl4 : rb < w4.heap.size := World.block_lt_of_cell? w4 _ y0
  have hov := cell_over w4
  have j1 : (0 : Int) ≤ (p1 : Int) := by omega
  have j2 : (p1 : Int) < (n : Int) := by have h : p1 < n := hp; omega
  have j3 : (0 : Int) ≤ (y : Int) := by omega
  have j4 : (y : Int) < ((c + 2 : Nat) : Int) := by omega
  refine wpM_read 0 rfl rfl (by kernel_rfl) (fun _ d _ _ _ h => by cases d <;> exact h) ?_
  go_big_quiet_step (fail)
  refine wpQuiet_nil ?_
  refine wpM_read 1 rfl rfl (by kernel_rfl) (fun _ d _ _ _ h => by cases d <;> exact h) ?_
  go_big_quiet_step (fail)
  refine wpQuiet_nil ?_
  refine wpM_read 2 rfl rfl (by kernel_rfl) (fun _ d _ _ _ h => by cases d <;> exact h) ?_
  go_big_quiet_step (fail)
  refine wpQuiet_nil ?_
  refine wpM_read 3 rfl rfl (by kernel_rfl) (fun _ d _ _ _ h => by cases d <;> exact h) ?_
  go_big_quiet_step (fail)
  refine wpQuiet_nil ?_
  refine wpM_read 4 rfl rfl (by kernel_rfl) (fun _ d _ _ _ h => by cases d <;> exact h) ?_
  go_big_quiet_step (fail)
  refine wpQuiet_nil ?_
  refine wpM_read 5 rfl rfl (by kernel_rfl) (fun _ d _ _ _ h => by cases d <;> exact h) ?_
  go_big_quiet_step (fail)
  refine wpQuiet_nil ?_
  refine wpM_read 6 rfl rfl (by kernel_rfl) (fun _ d _ _ _ h => by cases d <;> exact h) ?_
  go_big_quiet_step (fail)
  refine wpQuiet_nil ?_
  refine wpM_read 7 rfl rfl (by kernel_rfl) (fun _ d _ _ _ h => by cases d <;> exact h) ?_
  go_big_quiet_step (fail)
  refine wpQuiet_nil ?_
  refine wpM_read 8 rfl rfl (by kernel_rfl) (fun _ d _ _ _ h => by cases d <;> exact h) ?_
  go_big_quiet_step (fail)
  refine wpQuiet_nil ?_
  refine wpM_read 9 rfl rfl (by kernel_rfl) (fun _ d _ _ _ h => by cases d <;> exact h) ?_
  go_big_quiet_step (fail)
  refine wpQuiet_nil ?_
  refine wpM_read 10 rfl rfl (by kernel_rfl) (fun _ d _ _ _ h => by cases d <;> exact h) ?_
  go_big_quiet_step (fail)
  refine wpQuiet_nil ?_
  refine wpM_read 11 rfl rfl (by kernel_rfl) (fun _ d _ _ _ h => by cases d <;> exact h) ?_
  go_big_quiet_step (fail)
  refine wpQuiet_nil ?_
  refine wpM_call 12 57 #[.pointer (some ⟨g, 0, none⟩), .string X, .int .i64 (p2 : Nat)] (.int .i64 (y : Nat)) rfl (by kernel_rfl) (fun _ d _ _ _ h => by cases d <;> exact h) rfl (fun x => by go_simp) (fun x hx => HB.out x (S.step hx).below) (fun K hK => ?_)
  go_simp
  refine hK _ ?_
  clear hK K
  refine wpM_read 13 rfl rfl (by kernel_rfl) (fun _ d _ _ _ h => by cases d <;> exact h) ?_
  go_big_quiet_step (fail)
  refine wpQuiet_nil ?_
  refine wpM_read 14 rfl rfl (by kernel_rfl) (fun _ d _ _ _ h => by cases d <;> exact h) ?_
  go_big_quiet_step (fail)
  refine wpQuiet_nil ?_
  clear y0 y1 y2 y3 e0 e1 gl1 gl2 gl3 gl4 hov BW HB
  refine wpM_ready [15] (by kernel_rfl) (by decide) (AllM.cons rfl (fun w5 b5 K hK => ?_) AllM.nil)
  replace S := S.step b5
  have a0 := (S.blk 0 rfl).cell 0 rfl
  have a1 := (S.blk 0 rfl).cell 1 rfl
  have af := (S.blk 0 rfl).free
  clear b5
  go_simp
  refine hK _ _ (.inl (closes_of (by kernel_rfl))) ?_
  clear hK K
  refine wpM_done (by kernel_rfl) (fun w6 b6 => ?_)
  generalize hW3 : (w5.setCell _ _).setCell _ _ = w7 at b6
  have S7 : Star w w7 [oB (w.heap.size + 1) [.int .i64 mv.to, .int .i64 mv.dir] 80] := by rw [← hW3]; exact (((S.set 0 _).set 1 _).sel [0])
  replace S := S7.step b6
  clear b6 hW3 a0 a1 af S7
  go_wp2
  have q0 := (S.blk 0 rfl).cell 0 rfl
  have q1 := (S.blk 0 rfl).cell 1 rfl
  exact bodyPost_ret (v := .agg #[.int .i64 mv.to, .int .i64 mv.dir]) (by simp [results, Tryd.results82, go_sem, q0, q1]) rfl (show Gives _ w _ _ from ⟨rfl, S.below⟩)

end Go.Proofs.YtjochoghmpcgdaaDoor

/-
  What a call reads of a writer.
-/
namespace Go.Proofs.YtjochoghmpcgdaaDoor
open Go.RowKit

structure RdO (W : Writer) (w : World) (oa op oc : Nat) : Prop where
  ok : WritOk W
  cap : W.turner.moves.length ≤ oc ∧ oc ≤ 9223372036854775807
  rows : ∀ p, p < W.turner.moves.length → ∃ rb ro rc, w.cell? ⟨oa, op + p, none⟩ = some (.slice (some ⟨rb, ro, none⟩) (W.turner.letters.toNat + 2) rc) ∧ W.turner.letters.toNat + 2 ≤ rc ∧ rc ≤ 9223372036854775807 ∧
    ∀ k, k < W.turner.letters.toNat + 2 → w.cell? ⟨rb, ro + k, none⟩ = some (.string ((W.out[p]?.getD default)[k]?.getD ByteArray.empty)) ∧ ((W.out[p]?.getD default)[k]?.getD ByteArray.empty).size ≤ 3

theorem RdO.of {W : Writer} {w w' : World} {oa op oc : Nat} (h : RdO W w oa op oc) (hb : Below w.heap.size w w') : RdO W w' oa op oc := by
  have lt : ∀ {p : Addr} {v : Value}, w.cell? p = some v → w'.cell? p = some v := fun hc => (hb.cell (World.block_lt_of_cell? w _ hc)).trans hc
  refine ⟨h.ok, h.cap, fun p hp => ?_⟩
  obtain ⟨rb, ro, rc, k1, k2, k3, k4⟩ := h.rows p hp
  exact ⟨rb, ro, rc, lt k1, k2, k3, fun k hk => ⟨lt (k4 k hk).1, (k4 k hk).2⟩⟩

theorem rdO_of {W : Writer} {w : World} {B : Nat} {v3 : Value} (h : strssE.rd w B [v3] W.out) (hv : writerOk W = true) : ∃ oa op oc, v3 = .slice (some ⟨oa, op, none⟩) W.turner.moves.length oc ∧ RdO W w oa op oc := by
  have K := writOk_of hv
  have hn := K.n
  obtain ⟨oa, op, oc, rfl, h1, h2, h4⟩ := rd_s1p rfl h (by have := K.t.n1; omega)
  rw [hn] at h1 h4 ⊢
  refine ⟨oa, op, oc, rfl, K, ⟨h1, h2⟩, fun p hp => ?_⟩
  obtain ⟨vk, c1, r1⟩ := h4 p hp
  have hrow := K.row p (by omega)
  have hmv := (K.t.row _ (mem_getD (l := W.turner.moves) (k := p) hp)).1
  have hl : (W.out[p]?.getD default).length = W.turner.letters.toNat + 2 := by have := K.t.l1; omega
  obtain ⟨rb, ro, rc, rfl, m1, m2, m4⟩ := rd_s1p rfl r1 (by omega)
  rw [hl] at m1 m4 c1
  refine ⟨rb, ro, rc, c1, m1, m2, fun k hk => ?_⟩
  obtain ⟨vs, c2, r2⟩ := m4 k hk
  have hk2 : k < (W.out[p]?.getD default).length := by omega
  have hd : (W.out[p]?.getD default)[k]?.getD ByteArray.empty = (W.out[p]?.getD default)[k]?.getD default := by rw [List.getElem?_eq_getElem hk2]; rfl
  rw [hd]
  refine ⟨?_, out_size (hrow.2 _ (mem_getD hk2))⟩
  rw [c2]
  have := r2.1
  simpa using this

/-- A writer behind a pointer. -/
structure RdWP (W : Writer) (w : World) (g : Nat) : Prop where
  t : RdP W.turner w g
  o : ∃ oa op oc, w.cell? ⟨g, 3, none⟩ = some (.slice (some ⟨oa, op, none⟩) W.turner.moves.length oc) ∧ RdO W w oa op oc

theorem RdWP.of {W : Writer} {w w' : World} {g : Nat} (h : RdWP W w g) (hb : Below w.heap.size w w') : RdWP W w' g := by
  obtain ⟨oa, op, oc, h1, h2⟩ := h.o
  exact ⟨h.t.of hb, oa, op, oc, (hb.cell (World.block_lt_of_cell? w _ h1)).trans h1, h2.of hb⟩

/-- What is written, handed back. -/
def WrIs (T : ByteArray × Int) (w : World) (e : Ending) (w' : World) : Prop :=
  ∃ v : Value, e = .returned (.tuple #[.string T.1, v, .int .i64 T.2]) ∧ Below w.heap.size w w'

theorem textOf_snoc (W : Writer) (x : List UInt8) (run : List Pl) (k : Nat) (p : Pl) (h : run[k]? = some p) : textOf W x (run.take (k + 1)) = textOf W x (run.take k) ++ outAt W x p := by
  have hk := (List.getElem?_eq_some_iff.1 h)
  obtain ⟨hk1, hk2⟩ := hk
  rw [List.take_succ_eq_append_getElem hk1, hk2]
  unfold textOf
  rw [List.foldl_append]
  rfl

theorem runGo_inv {t : Turner} (K : TurnOk t) {x : List UInt8} (hx : wordOk t.letters.toNat x) : ∀ (f : Nat) (out : List Pl) (p : Pl), InvR t.moves.length (x.length + 2) out → (p.1 < t.moves.length ∧ p.2 < x.length + 2) → InvR t.moves.length (x.length + 2) (runGo t x f out p).1
  | 0, out, p, h, hp => h
  | f + 1, out, p, h, hp => by
    unfold runGo
    by_cases hc : out.contains p = true
    · rw [if_pos hc]; exact h
    · rw [if_neg hc]
      have h2 := h.snoc hp (by simpa using hc)
      by_cases hm : (moveAt t x p).to < 0
      · rw [if_pos hm]; exact h2
      · rw [if_neg hm]
        exact runGo_inv K hx f _ _ h2 (move_next K hx hp hm).1

theorem runT_inv {t : Turner} (K : TurnOk t) {x : List UInt8} (hx : wordOk t.letters.toNat x) : InvR t.moves.length (x.length + 2) (runT t x).1 := by
  refine runGo_inv K hx _ _ _ ⟨fun p hp => (by cases hp), List.nodup_nil⟩ ⟨?_, by show 0 < _; omega⟩
  have h0 := K.s0
  have h1 := K.s1
  show t.start.toNat < t.moves.length
  omega

theorem outAt_size {W : Writer} (K : WritOk W) (x : List UInt8) (p : Pl) : (outAt W x p).size ≤ 3 := by
  unfold outAt
  by_cases h1 : p.1 < W.out.length
  · by_cases h2 : belowN W.turner.letters.toNat x p.2 < (W.out[p.1]?.getD default).length
    · rw [show (W.out[p.1]?.getD default)[belowN W.turner.letters.toNat x p.2]?.getD ByteArray.empty = (W.out[p.1]?.getD default)[belowN W.turner.letters.toNat x p.2]?.getD default from by rw [List.getElem?_eq_getElem h2]; rfl]
      exact out_size ((K.row _ h1).2 _ (mem_getD h2))
    · rw [List.getElem?_eq_none (by omega)]; exact Nat.zero_le _
  · rw [List.getElem?_eq_none (l := W.out) (by omega)]
    exact Nat.zero_le _

theorem textOf_size {W : Writer} (K : WritOk W) (x : List UInt8) (run : List Pl) : ∀ k, k ≤ run.length → (textOf W x (run.take k)).size ≤ 3 * k
  | 0, _ => Nat.le_refl _
  | k + 1, h => by
    have hk : k < run.length := by omega
    rw [textOf_snoc W x run k _ (List.getElem?_eq_getElem hk), ByteArray.size_append]
    have := textOf_size K x run k (by omega)
    have := outAt_size K x run[k]
    omega

end Go.Proofs.YtjochoghmpcgdaaDoor

/-
  All words up to a length, and the first on which two writers differ, in plain words.
-/
namespace Go.Proofs.YtjochoghmpcgdaaDoor
open Go.RowKit

/-- All words up to a length: shorter ones first. -/
def allW (c N : Nat) : List (List UInt8) := (List.range (N + 1)).flatMap (wordsN c)

theorem flatMap_clen {α β : Type} (f : α → List β) (c : Nat) (h : ∀ x, (f x).length = c) : ∀ l : List α, (l.flatMap f).length = l.length * c
  | [] => by simp
  | x :: r => by rw [List.flatMap_cons, List.length_append, h, flatMap_clen f c h r, List.length_cons, Nat.add_mul, Nat.one_mul, Nat.add_comm]

theorem wordsN_len (c n : Nat) : (wordsN c (n + 1)).length = (wordsN c n).length * c := flatMap_clen _ c (fun w => by simp) (wordsN c n)

theorem allW_succ (c N : Nat) : allW c (N + 1) = allW c N ++ wordsN c (N + 1) := by
  unfold allW
  rw [List.range_succ, List.flatMap_append]
  simp

theorem allW_zero (c : Nat) : allW c 0 = [[]] := rfl

theorem allW_len_succ (c N : Nat) : (allW c (N + 1)).length = (allW c N).length + (wordsN c (N + 1)).length := by rw [allW_succ, List.length_append]

theorem allW_mono (c : Nat) {a b : Nat} (h : a ≤ b) : (allW c a).length ≤ (allW c b).length := by
  induction b with
  | zero => rw [Nat.le_zero.1 h]; exact Nat.le_refl _
  | succ b ih =>
    by_cases hb : a ≤ b
    · rw [allW_len_succ]; exact Nat.le_trans (ih hb) (Nat.le_add_right _ _)
    · rw [show a = b + 1 from by omega]; exact Nat.le_refl _

theorem wordsN_le (c N : Nat) : (wordsN c N).length ≤ (allW c N).length := by
  cases N with
  | zero => exact Nat.le_refl _
  | succ N => rw [allW_len_succ]; exact Nat.le_add_left _ _

theorem wordsN_ok (c : Nat) (hc : c ≤ 3) : ∀ n x, x ∈ wordsN c n → wordOk c x ∧ x.length = n
  | 0, x, h => by
    rw [show wordsN c 0 = [[]] from rfl, List.mem_singleton] at h
    subst h
    exact ⟨fun b hb => (by cases hb), rfl⟩
  | n + 1, x, h => by
    unfold wordsN at h
    obtain ⟨y, hy, hx⟩ := List.mem_flatMap.1 h
    obtain ⟨a, ha, rfl⟩ := List.mem_map.1 hx
    obtain ⟨h1, h2⟩ := wordsN_ok c hc n y hy
    have ha2 := List.mem_range.1 ha
    refine ⟨fun b hb => ?_, by rw [List.length_append, h2]; rfl⟩
    rcases List.mem_append.1 hb with hb | hb
    · exact h1 b hb
    · rw [List.mem_singleton.1 hb]
      have : (UInt8.ofNat (97 + a)).toNat = 97 + a := by rw [UInt8.toNat_ofNat']; exact Nat.mod_eq_of_lt (by omega)
      omega

/-- The first word on which two writers differ. -/
def scanO (u v : Writer) : List (List UInt8) → ByteArray × Int
  | [] => (⟨#[]⟩, 6)
  | x :: r => if (writtenT u x).2 = 3 ∨ (writtenT v x).2 = 3 then (⟨#[]⟩, 3) else if writtenT u x ≠ writtenT v x then (⟨x.toArray⟩, 0) else scanO u v r

def firstT (u v : Writer) (N : Int) : ByteArray × Int :=
  if writerOk u = false ∨ writerOk v = false then (⟨#[]⟩, 1) else if u.turner.letters ≠ v.turner.letters ∨ ¬ (0 ≤ N ∧ N ≤ 60) then (⟨#[]⟩, 2)
  else if 2000 < (allW u.turner.letters.toNat N.toNat).length then (⟨#[]⟩, 3) else scanO u v (allW u.turner.letters.toNat N.toNat)

end Go.Proofs.YtjochoghmpcgdaaDoor

/-
  Words in order as numbers: the k-th word of a length, and its successor.
-/
namespace Go.Proofs.YtjochoghmpcgdaaDoor

def digs (c : Nat) : Nat → Nat → List UInt8
  | 0, _ => []
  | n + 1, k => digs c n (k / c) ++ [UInt8.ofNat (97 + k % c)]

theorem digs_len (c : Nat) : ∀ n k, (digs c n k).length = n
  | 0, _ => rfl
  | n + 1, k => by unfold digs; rw [List.length_append, digs_len c n]; rfl

theorem flatMap_at {α β : Type} (f : α → List β) (c : Nat) (hc : 0 < c) (h : ∀ x, (f x).length = c) : ∀ (l : List α) (k : Nat), (l.flatMap f)[k]? = (l[k / c]?).bind fun x => (f x)[k % c]?
  | [], k => by simp
  | x :: r, k => by
    rw [List.flatMap_cons]
    by_cases hk : k < c
    · rw [List.getElem?_append_left (by rw [h]; exact hk), Nat.div_eq_of_lt hk, Nat.mod_eq_of_lt hk]
      rfl
    · rw [List.getElem?_append_right (by rw [h]; omega), h, flatMap_at f c hc h r (k - c)]
      have e1 : k / c = (k - c) / c + 1 := by rw [← Nat.add_div_right _ hc, Nat.sub_add_cancel (by omega)]
      have e2 : k % c = (k - c) % c := by rw [← Nat.add_mod_right (k - c) c, Nat.sub_add_cancel (by omega)]
      rw [e1, e2, List.getElem?_cons_succ]

theorem wordsN_get (c : Nat) (hc : 0 < c) : ∀ (n k : Nat), k < (wordsN c n).length → (wordsN c n)[k]? = some (digs c n k)
  | 0, k, h => by
    have h0 : k = 0 := by have h2 : k < 1 := h; omega
    subst h0
    rfl
  | n + 1, k, h => by
    rw [wordsN_len] at h
    have hk : k / c < (wordsN c n).length := by
      rw [Nat.div_lt_iff_lt_mul hc]; exact h
    show ((wordsN c n).flatMap fun w => (List.range c).map fun a => w ++ [UInt8.ofNat (97 + a)])[k]? = _
    rw [flatMap_at _ c hc (fun w => by simp), wordsN_get c hc n (k / c) hk]
    show (List.map _ (List.range c))[k % c]? = _
    rw [List.getElem?_map, List.getElem?_range (Nat.mod_lt _ hc)]
    rfl

/-- The state of the search for the next word: j letters on the right are 'a' again. -/
theorem digs_last (c : Nat) (n k : Nat) : (digs c (n + 1) k) = digs c n (k / c) ++ [UInt8.ofNat (97 + k % c)] := rfl

end Go.Proofs.YtjochoghmpcgdaaDoor

/-
  The library's 64-bit product at 1 and a count up to 60 (the cases printed by a program).
-/
namespace Go.Proofs.YtjochoghmpcgdaaDoor
open Go.RowKit

set_option maxHeartbeats 16000000 in
theorem mul64_b : ∀ (c : Nat), c ≤ 60 → ∀ w : World, Calls Tryd.prog 96 #[.int .u64 1, .int .u64 c] w (Gives (.tuple #[.int .u64 0, .int .u64 c]) w)
  | 0, _, w => by
    go_enter Tryd.func96, Tryd.ntmps96
    go_wp2
    exact bodyPost_ret (v := .tuple #[.int .u64 0, .int .u64 _]) (by simp [results, Tryd.results96, go_sem]; rfl) rfl ⟨rfl, Below.refl _ _⟩
  | 1, _, w => by
    go_enter Tryd.func96, Tryd.ntmps96
    go_wp2
    exact bodyPost_ret (v := .tuple #[.int .u64 0, .int .u64 _]) (by simp [results, Tryd.results96, go_sem]; rfl) rfl ⟨rfl, Below.refl _ _⟩
  | 2, _, w => by
    go_enter Tryd.func96, Tryd.ntmps96
    go_wp2
    exact bodyPost_ret (v := .tuple #[.int .u64 0, .int .u64 _]) (by simp [results, Tryd.results96, go_sem]; rfl) rfl ⟨rfl, Below.refl _ _⟩
  | 3, _, w => by
    go_enter Tryd.func96, Tryd.ntmps96
    go_wp2
    exact bodyPost_ret (v := .tuple #[.int .u64 0, .int .u64 _]) (by simp [results, Tryd.results96, go_sem]; rfl) rfl ⟨rfl, Below.refl _ _⟩
  | 4, _, w => by
    go_enter Tryd.func96, Tryd.ntmps96
    go_wp2
    exact bodyPost_ret (v := .tuple #[.int .u64 0, .int .u64 _]) (by simp [results, Tryd.results96, go_sem]; rfl) rfl ⟨rfl, Below.refl _ _⟩
  | 5, _, w => by
    go_enter Tryd.func96, Tryd.ntmps96
    go_wp2
    exact bodyPost_ret (v := .tuple #[.int .u64 0, .int .u64 _]) (by simp [results, Tryd.results96, go_sem]; rfl) rfl ⟨rfl, Below.refl _ _⟩
  | 6, _, w => by
    go_enter Tryd.func96, Tryd.ntmps96
    go_wp2
    exact bodyPost_ret (v := .tuple #[.int .u64 0, .int .u64 _]) (by simp [results, Tryd.results96, go_sem]; rfl) rfl ⟨rfl, Below.refl _ _⟩
  | 7, _, w => by
    go_enter Tryd.func96, Tryd.ntmps96
    go_wp2
    exact bodyPost_ret (v := .tuple #[.int .u64 0, .int .u64 _]) (by simp [results, Tryd.results96, go_sem]; rfl) rfl ⟨rfl, Below.refl _ _⟩
  | 8, _, w => by
    go_enter Tryd.func96, Tryd.ntmps96
    go_wp2
    exact bodyPost_ret (v := .tuple #[.int .u64 0, .int .u64 _]) (by simp [results, Tryd.results96, go_sem]; rfl) rfl ⟨rfl, Below.refl _ _⟩
  | 9, _, w => by
    go_enter Tryd.func96, Tryd.ntmps96
    go_wp2
    exact bodyPost_ret (v := .tuple #[.int .u64 0, .int .u64 _]) (by simp [results, Tryd.results96, go_sem]; rfl) rfl ⟨rfl, Below.refl _ _⟩
  | 10, _, w => by
    go_enter Tryd.func96, Tryd.ntmps96
    go_wp2
    exact bodyPost_ret (v := .tuple #[.int .u64 0, .int .u64 _]) (by simp [results, Tryd.results96, go_sem]; rfl) rfl ⟨rfl, Below.refl _ _⟩
  | 11, _, w => by
    go_enter Tryd.func96, Tryd.ntmps96
    go_wp2
    exact bodyPost_ret (v := .tuple #[.int .u64 0, .int .u64 _]) (by simp [results, Tryd.results96, go_sem]; rfl) rfl ⟨rfl, Below.refl _ _⟩
  | 12, _, w => by
    go_enter Tryd.func96, Tryd.ntmps96
    go_wp2
    exact bodyPost_ret (v := .tuple #[.int .u64 0, .int .u64 _]) (by simp [results, Tryd.results96, go_sem]; rfl) rfl ⟨rfl, Below.refl _ _⟩
  | 13, _, w => by
    go_enter Tryd.func96, Tryd.ntmps96
    go_wp2
    exact bodyPost_ret (v := .tuple #[.int .u64 0, .int .u64 _]) (by simp [results, Tryd.results96, go_sem]; rfl) rfl ⟨rfl, Below.refl _ _⟩
  | 14, _, w => by
    go_enter Tryd.func96, Tryd.ntmps96
    go_wp2
    exact bodyPost_ret (v := .tuple #[.int .u64 0, .int .u64 _]) (by simp [results, Tryd.results96, go_sem]; rfl) rfl ⟨rfl, Below.refl _ _⟩
  | 15, _, w => by
    go_enter Tryd.func96, Tryd.ntmps96
    go_wp2
    exact bodyPost_ret (v := .tuple #[.int .u64 0, .int .u64 _]) (by simp [results, Tryd.results96, go_sem]; rfl) rfl ⟨rfl, Below.refl _ _⟩
  | 16, _, w => by
    go_enter Tryd.func96, Tryd.ntmps96
    go_wp2
    exact bodyPost_ret (v := .tuple #[.int .u64 0, .int .u64 _]) (by simp [results, Tryd.results96, go_sem]; rfl) rfl ⟨rfl, Below.refl _ _⟩
  | 17, _, w => by
    go_enter Tryd.func96, Tryd.ntmps96
    go_wp2
    exact bodyPost_ret (v := .tuple #[.int .u64 0, .int .u64 _]) (by simp [results, Tryd.results96, go_sem]; rfl) rfl ⟨rfl, Below.refl _ _⟩
  | 18, _, w => by
    go_enter Tryd.func96, Tryd.ntmps96
    go_wp2
    exact bodyPost_ret (v := .tuple #[.int .u64 0, .int .u64 _]) (by simp [results, Tryd.results96, go_sem]; rfl) rfl ⟨rfl, Below.refl _ _⟩
  | 19, _, w => by
    go_enter Tryd.func96, Tryd.ntmps96
    go_wp2
    exact bodyPost_ret (v := .tuple #[.int .u64 0, .int .u64 _]) (by simp [results, Tryd.results96, go_sem]; rfl) rfl ⟨rfl, Below.refl _ _⟩
  | 20, _, w => by
    go_enter Tryd.func96, Tryd.ntmps96
    go_wp2
    exact bodyPost_ret (v := .tuple #[.int .u64 0, .int .u64 _]) (by simp [results, Tryd.results96, go_sem]; rfl) rfl ⟨rfl, Below.refl _ _⟩
  | 21, _, w => by
    go_enter Tryd.func96, Tryd.ntmps96
    go_wp2
    exact bodyPost_ret (v := .tuple #[.int .u64 0, .int .u64 _]) (by simp [results, Tryd.results96, go_sem]; rfl) rfl ⟨rfl, Below.refl _ _⟩
  | 22, _, w => by
    go_enter Tryd.func96, Tryd.ntmps96
    go_wp2
    exact bodyPost_ret (v := .tuple #[.int .u64 0, .int .u64 _]) (by simp [results, Tryd.results96, go_sem]; rfl) rfl ⟨rfl, Below.refl _ _⟩
  | 23, _, w => by
    go_enter Tryd.func96, Tryd.ntmps96
    go_wp2
    exact bodyPost_ret (v := .tuple #[.int .u64 0, .int .u64 _]) (by simp [results, Tryd.results96, go_sem]; rfl) rfl ⟨rfl, Below.refl _ _⟩
  | 24, _, w => by
    go_enter Tryd.func96, Tryd.ntmps96
    go_wp2
    exact bodyPost_ret (v := .tuple #[.int .u64 0, .int .u64 _]) (by simp [results, Tryd.results96, go_sem]; rfl) rfl ⟨rfl, Below.refl _ _⟩
  | 25, _, w => by
    go_enter Tryd.func96, Tryd.ntmps96
    go_wp2
    exact bodyPost_ret (v := .tuple #[.int .u64 0, .int .u64 _]) (by simp [results, Tryd.results96, go_sem]; rfl) rfl ⟨rfl, Below.refl _ _⟩
  | 26, _, w => by
    go_enter Tryd.func96, Tryd.ntmps96
    go_wp2
    exact bodyPost_ret (v := .tuple #[.int .u64 0, .int .u64 _]) (by simp [results, Tryd.results96, go_sem]; rfl) rfl ⟨rfl, Below.refl _ _⟩
  | 27, _, w => by
    go_enter Tryd.func96, Tryd.ntmps96
    go_wp2
    exact bodyPost_ret (v := .tuple #[.int .u64 0, .int .u64 _]) (by simp [results, Tryd.results96, go_sem]; rfl) rfl ⟨rfl, Below.refl _ _⟩
  | 28, _, w => by
    go_enter Tryd.func96, Tryd.ntmps96
    go_wp2
    exact bodyPost_ret (v := .tuple #[.int .u64 0, .int .u64 _]) (by simp [results, Tryd.results96, go_sem]; rfl) rfl ⟨rfl, Below.refl _ _⟩
  | 29, _, w => by
    go_enter Tryd.func96, Tryd.ntmps96
    go_wp2
    exact bodyPost_ret (v := .tuple #[.int .u64 0, .int .u64 _]) (by simp [results, Tryd.results96, go_sem]; rfl) rfl ⟨rfl, Below.refl _ _⟩
  | 30, _, w => by
    go_enter Tryd.func96, Tryd.ntmps96
    go_wp2
    exact bodyPost_ret (v := .tuple #[.int .u64 0, .int .u64 _]) (by simp [results, Tryd.results96, go_sem]; rfl) rfl ⟨rfl, Below.refl _ _⟩
  | 31, _, w => by
    go_enter Tryd.func96, Tryd.ntmps96
    go_wp2
    exact bodyPost_ret (v := .tuple #[.int .u64 0, .int .u64 _]) (by simp [results, Tryd.results96, go_sem]; rfl) rfl ⟨rfl, Below.refl _ _⟩
  | 32, _, w => by
    go_enter Tryd.func96, Tryd.ntmps96
    go_wp2
    exact bodyPost_ret (v := .tuple #[.int .u64 0, .int .u64 _]) (by simp [results, Tryd.results96, go_sem]; rfl) rfl ⟨rfl, Below.refl _ _⟩
  | 33, _, w => by
    go_enter Tryd.func96, Tryd.ntmps96
    go_wp2
    exact bodyPost_ret (v := .tuple #[.int .u64 0, .int .u64 _]) (by simp [results, Tryd.results96, go_sem]; rfl) rfl ⟨rfl, Below.refl _ _⟩
  | 34, _, w => by
    go_enter Tryd.func96, Tryd.ntmps96
    go_wp2
    exact bodyPost_ret (v := .tuple #[.int .u64 0, .int .u64 _]) (by simp [results, Tryd.results96, go_sem]; rfl) rfl ⟨rfl, Below.refl _ _⟩
  | 35, _, w => by
    go_enter Tryd.func96, Tryd.ntmps96
    go_wp2
    exact bodyPost_ret (v := .tuple #[.int .u64 0, .int .u64 _]) (by simp [results, Tryd.results96, go_sem]; rfl) rfl ⟨rfl, Below.refl _ _⟩
  | 36, _, w => by
    go_enter Tryd.func96, Tryd.ntmps96
    go_wp2
    exact bodyPost_ret (v := .tuple #[.int .u64 0, .int .u64 _]) (by simp [results, Tryd.results96, go_sem]; rfl) rfl ⟨rfl, Below.refl _ _⟩
  | 37, _, w => by
    go_enter Tryd.func96, Tryd.ntmps96
    go_wp2
    exact bodyPost_ret (v := .tuple #[.int .u64 0, .int .u64 _]) (by simp [results, Tryd.results96, go_sem]; rfl) rfl ⟨rfl, Below.refl _ _⟩
  | 38, _, w => by
    go_enter Tryd.func96, Tryd.ntmps96
    go_wp2
    exact bodyPost_ret (v := .tuple #[.int .u64 0, .int .u64 _]) (by simp [results, Tryd.results96, go_sem]; rfl) rfl ⟨rfl, Below.refl _ _⟩
  | 39, _, w => by
    go_enter Tryd.func96, Tryd.ntmps96
    go_wp2
    exact bodyPost_ret (v := .tuple #[.int .u64 0, .int .u64 _]) (by simp [results, Tryd.results96, go_sem]; rfl) rfl ⟨rfl, Below.refl _ _⟩
  | 40, _, w => by
    go_enter Tryd.func96, Tryd.ntmps96
    go_wp2
    exact bodyPost_ret (v := .tuple #[.int .u64 0, .int .u64 _]) (by simp [results, Tryd.results96, go_sem]; rfl) rfl ⟨rfl, Below.refl _ _⟩
  | 41, _, w => by
    go_enter Tryd.func96, Tryd.ntmps96
    go_wp2
    exact bodyPost_ret (v := .tuple #[.int .u64 0, .int .u64 _]) (by simp [results, Tryd.results96, go_sem]; rfl) rfl ⟨rfl, Below.refl _ _⟩
  | 42, _, w => by
    go_enter Tryd.func96, Tryd.ntmps96
    go_wp2
    exact bodyPost_ret (v := .tuple #[.int .u64 0, .int .u64 _]) (by simp [results, Tryd.results96, go_sem]; rfl) rfl ⟨rfl, Below.refl _ _⟩
  | 43, _, w => by
    go_enter Tryd.func96, Tryd.ntmps96
    go_wp2
    exact bodyPost_ret (v := .tuple #[.int .u64 0, .int .u64 _]) (by simp [results, Tryd.results96, go_sem]; rfl) rfl ⟨rfl, Below.refl _ _⟩
  | 44, _, w => by
    go_enter Tryd.func96, Tryd.ntmps96
    go_wp2
    exact bodyPost_ret (v := .tuple #[.int .u64 0, .int .u64 _]) (by simp [results, Tryd.results96, go_sem]; rfl) rfl ⟨rfl, Below.refl _ _⟩
  | 45, _, w => by
    go_enter Tryd.func96, Tryd.ntmps96
    go_wp2
    exact bodyPost_ret (v := .tuple #[.int .u64 0, .int .u64 _]) (by simp [results, Tryd.results96, go_sem]; rfl) rfl ⟨rfl, Below.refl _ _⟩
  | 46, _, w => by
    go_enter Tryd.func96, Tryd.ntmps96
    go_wp2
    exact bodyPost_ret (v := .tuple #[.int .u64 0, .int .u64 _]) (by simp [results, Tryd.results96, go_sem]; rfl) rfl ⟨rfl, Below.refl _ _⟩
  | 47, _, w => by
    go_enter Tryd.func96, Tryd.ntmps96
    go_wp2
    exact bodyPost_ret (v := .tuple #[.int .u64 0, .int .u64 _]) (by simp [results, Tryd.results96, go_sem]; rfl) rfl ⟨rfl, Below.refl _ _⟩
  | 48, _, w => by
    go_enter Tryd.func96, Tryd.ntmps96
    go_wp2
    exact bodyPost_ret (v := .tuple #[.int .u64 0, .int .u64 _]) (by simp [results, Tryd.results96, go_sem]; rfl) rfl ⟨rfl, Below.refl _ _⟩
  | 49, _, w => by
    go_enter Tryd.func96, Tryd.ntmps96
    go_wp2
    exact bodyPost_ret (v := .tuple #[.int .u64 0, .int .u64 _]) (by simp [results, Tryd.results96, go_sem]; rfl) rfl ⟨rfl, Below.refl _ _⟩
  | 50, _, w => by
    go_enter Tryd.func96, Tryd.ntmps96
    go_wp2
    exact bodyPost_ret (v := .tuple #[.int .u64 0, .int .u64 _]) (by simp [results, Tryd.results96, go_sem]; rfl) rfl ⟨rfl, Below.refl _ _⟩
  | 51, _, w => by
    go_enter Tryd.func96, Tryd.ntmps96
    go_wp2
    exact bodyPost_ret (v := .tuple #[.int .u64 0, .int .u64 _]) (by simp [results, Tryd.results96, go_sem]; rfl) rfl ⟨rfl, Below.refl _ _⟩
  | 52, _, w => by
    go_enter Tryd.func96, Tryd.ntmps96
    go_wp2
    exact bodyPost_ret (v := .tuple #[.int .u64 0, .int .u64 _]) (by simp [results, Tryd.results96, go_sem]; rfl) rfl ⟨rfl, Below.refl _ _⟩
  | 53, _, w => by
    go_enter Tryd.func96, Tryd.ntmps96
    go_wp2
    exact bodyPost_ret (v := .tuple #[.int .u64 0, .int .u64 _]) (by simp [results, Tryd.results96, go_sem]; rfl) rfl ⟨rfl, Below.refl _ _⟩
  | 54, _, w => by
    go_enter Tryd.func96, Tryd.ntmps96
    go_wp2
    exact bodyPost_ret (v := .tuple #[.int .u64 0, .int .u64 _]) (by simp [results, Tryd.results96, go_sem]; rfl) rfl ⟨rfl, Below.refl _ _⟩
  | 55, _, w => by
    go_enter Tryd.func96, Tryd.ntmps96
    go_wp2
    exact bodyPost_ret (v := .tuple #[.int .u64 0, .int .u64 _]) (by simp [results, Tryd.results96, go_sem]; rfl) rfl ⟨rfl, Below.refl _ _⟩
  | 56, _, w => by
    go_enter Tryd.func96, Tryd.ntmps96
    go_wp2
    exact bodyPost_ret (v := .tuple #[.int .u64 0, .int .u64 _]) (by simp [results, Tryd.results96, go_sem]; rfl) rfl ⟨rfl, Below.refl _ _⟩
  | 57, _, w => by
    go_enter Tryd.func96, Tryd.ntmps96
    go_wp2
    exact bodyPost_ret (v := .tuple #[.int .u64 0, .int .u64 _]) (by simp [results, Tryd.results96, go_sem]; rfl) rfl ⟨rfl, Below.refl _ _⟩
  | 58, _, w => by
    go_enter Tryd.func96, Tryd.ntmps96
    go_wp2
    exact bodyPost_ret (v := .tuple #[.int .u64 0, .int .u64 _]) (by simp [results, Tryd.results96, go_sem]; rfl) rfl ⟨rfl, Below.refl _ _⟩
  | 59, _, w => by
    go_enter Tryd.func96, Tryd.ntmps96
    go_wp2
    exact bodyPost_ret (v := .tuple #[.int .u64 0, .int .u64 _]) (by simp [results, Tryd.results96, go_sem]; rfl) rfl ⟨rfl, Below.refl _ _⟩
  | 60, _, w => by
    go_enter Tryd.func96, Tryd.ntmps96
    go_wp2
    exact bodyPost_ret (v := .tuple #[.int .u64 0, .int .u64 _]) (by simp [results, Tryd.results96, go_sem]; rfl) rfl ⟨rfl, Below.refl _ _⟩
  | c + 61, h, _ => absurd h (by omega)

set_option maxHeartbeats 16000000 in
theorem mul_b : ∀ (c : Nat), c ≤ 60 → ∀ w : World, Calls Tryd.prog 76 #[.int .u64 1, .int .u64 c] w (Gives (.tuple #[.int .u64 0, .int .u64 c]) w)
  | 0, hc, w => by
    have h := mul64_b 0 hc w
    go_enter Tryd.func76, Tryd.ntmps76
    go_wp2_with fail
    refine h.mono ?_
    rintro e w1 ⟨rfl, b⟩
    go_wp2
    exact bodyPost_ret (v := .tuple #[.int .u64 0, .int .u64 _]) (by simp [results, Tryd.results76, go_sem]) rfl ⟨rfl, b⟩
  | 1, hc, w => by
    have h := mul64_b 1 hc w
    go_enter Tryd.func76, Tryd.ntmps76
    go_wp2_with fail
    refine h.mono ?_
    rintro e w1 ⟨rfl, b⟩
    go_wp2
    exact bodyPost_ret (v := .tuple #[.int .u64 0, .int .u64 _]) (by simp [results, Tryd.results76, go_sem]) rfl ⟨rfl, b⟩
  | 2, hc, w => by
    have h := mul64_b 2 hc w
    go_enter Tryd.func76, Tryd.ntmps76
    go_wp2_with fail
    refine h.mono ?_
    rintro e w1 ⟨rfl, b⟩
    go_wp2
    exact bodyPost_ret (v := .tuple #[.int .u64 0, .int .u64 _]) (by simp [results, Tryd.results76, go_sem]) rfl ⟨rfl, b⟩
  | 3, hc, w => by
    have h := mul64_b 3 hc w
    go_enter Tryd.func76, Tryd.ntmps76
    go_wp2_with fail
    refine h.mono ?_
    rintro e w1 ⟨rfl, b⟩
    go_wp2
    exact bodyPost_ret (v := .tuple #[.int .u64 0, .int .u64 _]) (by simp [results, Tryd.results76, go_sem]) rfl ⟨rfl, b⟩
  | 4, hc, w => by
    have h := mul64_b 4 hc w
    go_enter Tryd.func76, Tryd.ntmps76
    go_wp2_with fail
    refine h.mono ?_
    rintro e w1 ⟨rfl, b⟩
    go_wp2
    exact bodyPost_ret (v := .tuple #[.int .u64 0, .int .u64 _]) (by simp [results, Tryd.results76, go_sem]) rfl ⟨rfl, b⟩
  | 5, hc, w => by
    have h := mul64_b 5 hc w
    go_enter Tryd.func76, Tryd.ntmps76
    go_wp2_with fail
    refine h.mono ?_
    rintro e w1 ⟨rfl, b⟩
    go_wp2
    exact bodyPost_ret (v := .tuple #[.int .u64 0, .int .u64 _]) (by simp [results, Tryd.results76, go_sem]) rfl ⟨rfl, b⟩
  | 6, hc, w => by
    have h := mul64_b 6 hc w
    go_enter Tryd.func76, Tryd.ntmps76
    go_wp2_with fail
    refine h.mono ?_
    rintro e w1 ⟨rfl, b⟩
    go_wp2
    exact bodyPost_ret (v := .tuple #[.int .u64 0, .int .u64 _]) (by simp [results, Tryd.results76, go_sem]) rfl ⟨rfl, b⟩
  | 7, hc, w => by
    have h := mul64_b 7 hc w
    go_enter Tryd.func76, Tryd.ntmps76
    go_wp2_with fail
    refine h.mono ?_
    rintro e w1 ⟨rfl, b⟩
    go_wp2
    exact bodyPost_ret (v := .tuple #[.int .u64 0, .int .u64 _]) (by simp [results, Tryd.results76, go_sem]) rfl ⟨rfl, b⟩
  | 8, hc, w => by
    have h := mul64_b 8 hc w
    go_enter Tryd.func76, Tryd.ntmps76
    go_wp2_with fail
    refine h.mono ?_
    rintro e w1 ⟨rfl, b⟩
    go_wp2
    exact bodyPost_ret (v := .tuple #[.int .u64 0, .int .u64 _]) (by simp [results, Tryd.results76, go_sem]) rfl ⟨rfl, b⟩
  | 9, hc, w => by
    have h := mul64_b 9 hc w
    go_enter Tryd.func76, Tryd.ntmps76
    go_wp2_with fail
    refine h.mono ?_
    rintro e w1 ⟨rfl, b⟩
    go_wp2
    exact bodyPost_ret (v := .tuple #[.int .u64 0, .int .u64 _]) (by simp [results, Tryd.results76, go_sem]) rfl ⟨rfl, b⟩
  | 10, hc, w => by
    have h := mul64_b 10 hc w
    go_enter Tryd.func76, Tryd.ntmps76
    go_wp2_with fail
    refine h.mono ?_
    rintro e w1 ⟨rfl, b⟩
    go_wp2
    exact bodyPost_ret (v := .tuple #[.int .u64 0, .int .u64 _]) (by simp [results, Tryd.results76, go_sem]) rfl ⟨rfl, b⟩
  | 11, hc, w => by
    have h := mul64_b 11 hc w
    go_enter Tryd.func76, Tryd.ntmps76
    go_wp2_with fail
    refine h.mono ?_
    rintro e w1 ⟨rfl, b⟩
    go_wp2
    exact bodyPost_ret (v := .tuple #[.int .u64 0, .int .u64 _]) (by simp [results, Tryd.results76, go_sem]) rfl ⟨rfl, b⟩
  | 12, hc, w => by
    have h := mul64_b 12 hc w
    go_enter Tryd.func76, Tryd.ntmps76
    go_wp2_with fail
    refine h.mono ?_
    rintro e w1 ⟨rfl, b⟩
    go_wp2
    exact bodyPost_ret (v := .tuple #[.int .u64 0, .int .u64 _]) (by simp [results, Tryd.results76, go_sem]) rfl ⟨rfl, b⟩
  | 13, hc, w => by
    have h := mul64_b 13 hc w
    go_enter Tryd.func76, Tryd.ntmps76
    go_wp2_with fail
    refine h.mono ?_
    rintro e w1 ⟨rfl, b⟩
    go_wp2
    exact bodyPost_ret (v := .tuple #[.int .u64 0, .int .u64 _]) (by simp [results, Tryd.results76, go_sem]) rfl ⟨rfl, b⟩
  | 14, hc, w => by
    have h := mul64_b 14 hc w
    go_enter Tryd.func76, Tryd.ntmps76
    go_wp2_with fail
    refine h.mono ?_
    rintro e w1 ⟨rfl, b⟩
    go_wp2
    exact bodyPost_ret (v := .tuple #[.int .u64 0, .int .u64 _]) (by simp [results, Tryd.results76, go_sem]) rfl ⟨rfl, b⟩
  | 15, hc, w => by
    have h := mul64_b 15 hc w
    go_enter Tryd.func76, Tryd.ntmps76
    go_wp2_with fail
    refine h.mono ?_
    rintro e w1 ⟨rfl, b⟩
    go_wp2
    exact bodyPost_ret (v := .tuple #[.int .u64 0, .int .u64 _]) (by simp [results, Tryd.results76, go_sem]) rfl ⟨rfl, b⟩
  | 16, hc, w => by
    have h := mul64_b 16 hc w
    go_enter Tryd.func76, Tryd.ntmps76
    go_wp2_with fail
    refine h.mono ?_
    rintro e w1 ⟨rfl, b⟩
    go_wp2
    exact bodyPost_ret (v := .tuple #[.int .u64 0, .int .u64 _]) (by simp [results, Tryd.results76, go_sem]) rfl ⟨rfl, b⟩
  | 17, hc, w => by
    have h := mul64_b 17 hc w
    go_enter Tryd.func76, Tryd.ntmps76
    go_wp2_with fail
    refine h.mono ?_
    rintro e w1 ⟨rfl, b⟩
    go_wp2
    exact bodyPost_ret (v := .tuple #[.int .u64 0, .int .u64 _]) (by simp [results, Tryd.results76, go_sem]) rfl ⟨rfl, b⟩
  | 18, hc, w => by
    have h := mul64_b 18 hc w
    go_enter Tryd.func76, Tryd.ntmps76
    go_wp2_with fail
    refine h.mono ?_
    rintro e w1 ⟨rfl, b⟩
    go_wp2
    exact bodyPost_ret (v := .tuple #[.int .u64 0, .int .u64 _]) (by simp [results, Tryd.results76, go_sem]) rfl ⟨rfl, b⟩
  | 19, hc, w => by
    have h := mul64_b 19 hc w
    go_enter Tryd.func76, Tryd.ntmps76
    go_wp2_with fail
    refine h.mono ?_
    rintro e w1 ⟨rfl, b⟩
    go_wp2
    exact bodyPost_ret (v := .tuple #[.int .u64 0, .int .u64 _]) (by simp [results, Tryd.results76, go_sem]) rfl ⟨rfl, b⟩
  | 20, hc, w => by
    have h := mul64_b 20 hc w
    go_enter Tryd.func76, Tryd.ntmps76
    go_wp2_with fail
    refine h.mono ?_
    rintro e w1 ⟨rfl, b⟩
    go_wp2
    exact bodyPost_ret (v := .tuple #[.int .u64 0, .int .u64 _]) (by simp [results, Tryd.results76, go_sem]) rfl ⟨rfl, b⟩
  | 21, hc, w => by
    have h := mul64_b 21 hc w
    go_enter Tryd.func76, Tryd.ntmps76
    go_wp2_with fail
    refine h.mono ?_
    rintro e w1 ⟨rfl, b⟩
    go_wp2
    exact bodyPost_ret (v := .tuple #[.int .u64 0, .int .u64 _]) (by simp [results, Tryd.results76, go_sem]) rfl ⟨rfl, b⟩
  | 22, hc, w => by
    have h := mul64_b 22 hc w
    go_enter Tryd.func76, Tryd.ntmps76
    go_wp2_with fail
    refine h.mono ?_
    rintro e w1 ⟨rfl, b⟩
    go_wp2
    exact bodyPost_ret (v := .tuple #[.int .u64 0, .int .u64 _]) (by simp [results, Tryd.results76, go_sem]) rfl ⟨rfl, b⟩
  | 23, hc, w => by
    have h := mul64_b 23 hc w
    go_enter Tryd.func76, Tryd.ntmps76
    go_wp2_with fail
    refine h.mono ?_
    rintro e w1 ⟨rfl, b⟩
    go_wp2
    exact bodyPost_ret (v := .tuple #[.int .u64 0, .int .u64 _]) (by simp [results, Tryd.results76, go_sem]) rfl ⟨rfl, b⟩
  | 24, hc, w => by
    have h := mul64_b 24 hc w
    go_enter Tryd.func76, Tryd.ntmps76
    go_wp2_with fail
    refine h.mono ?_
    rintro e w1 ⟨rfl, b⟩
    go_wp2
    exact bodyPost_ret (v := .tuple #[.int .u64 0, .int .u64 _]) (by simp [results, Tryd.results76, go_sem]) rfl ⟨rfl, b⟩
  | 25, hc, w => by
    have h := mul64_b 25 hc w
    go_enter Tryd.func76, Tryd.ntmps76
    go_wp2_with fail
    refine h.mono ?_
    rintro e w1 ⟨rfl, b⟩
    go_wp2
    exact bodyPost_ret (v := .tuple #[.int .u64 0, .int .u64 _]) (by simp [results, Tryd.results76, go_sem]) rfl ⟨rfl, b⟩
  | 26, hc, w => by
    have h := mul64_b 26 hc w
    go_enter Tryd.func76, Tryd.ntmps76
    go_wp2_with fail
    refine h.mono ?_
    rintro e w1 ⟨rfl, b⟩
    go_wp2
    exact bodyPost_ret (v := .tuple #[.int .u64 0, .int .u64 _]) (by simp [results, Tryd.results76, go_sem]) rfl ⟨rfl, b⟩
  | 27, hc, w => by
    have h := mul64_b 27 hc w
    go_enter Tryd.func76, Tryd.ntmps76
    go_wp2_with fail
    refine h.mono ?_
    rintro e w1 ⟨rfl, b⟩
    go_wp2
    exact bodyPost_ret (v := .tuple #[.int .u64 0, .int .u64 _]) (by simp [results, Tryd.results76, go_sem]) rfl ⟨rfl, b⟩
  | 28, hc, w => by
    have h := mul64_b 28 hc w
    go_enter Tryd.func76, Tryd.ntmps76
    go_wp2_with fail
    refine h.mono ?_
    rintro e w1 ⟨rfl, b⟩
    go_wp2
    exact bodyPost_ret (v := .tuple #[.int .u64 0, .int .u64 _]) (by simp [results, Tryd.results76, go_sem]) rfl ⟨rfl, b⟩
  | 29, hc, w => by
    have h := mul64_b 29 hc w
    go_enter Tryd.func76, Tryd.ntmps76
    go_wp2_with fail
    refine h.mono ?_
    rintro e w1 ⟨rfl, b⟩
    go_wp2
    exact bodyPost_ret (v := .tuple #[.int .u64 0, .int .u64 _]) (by simp [results, Tryd.results76, go_sem]) rfl ⟨rfl, b⟩
  | 30, hc, w => by
    have h := mul64_b 30 hc w
    go_enter Tryd.func76, Tryd.ntmps76
    go_wp2_with fail
    refine h.mono ?_
    rintro e w1 ⟨rfl, b⟩
    go_wp2
    exact bodyPost_ret (v := .tuple #[.int .u64 0, .int .u64 _]) (by simp [results, Tryd.results76, go_sem]) rfl ⟨rfl, b⟩
  | 31, hc, w => by
    have h := mul64_b 31 hc w
    go_enter Tryd.func76, Tryd.ntmps76
    go_wp2_with fail
    refine h.mono ?_
    rintro e w1 ⟨rfl, b⟩
    go_wp2
    exact bodyPost_ret (v := .tuple #[.int .u64 0, .int .u64 _]) (by simp [results, Tryd.results76, go_sem]) rfl ⟨rfl, b⟩
  | 32, hc, w => by
    have h := mul64_b 32 hc w
    go_enter Tryd.func76, Tryd.ntmps76
    go_wp2_with fail
    refine h.mono ?_
    rintro e w1 ⟨rfl, b⟩
    go_wp2
    exact bodyPost_ret (v := .tuple #[.int .u64 0, .int .u64 _]) (by simp [results, Tryd.results76, go_sem]) rfl ⟨rfl, b⟩
  | 33, hc, w => by
    have h := mul64_b 33 hc w
    go_enter Tryd.func76, Tryd.ntmps76
    go_wp2_with fail
    refine h.mono ?_
    rintro e w1 ⟨rfl, b⟩
    go_wp2
    exact bodyPost_ret (v := .tuple #[.int .u64 0, .int .u64 _]) (by simp [results, Tryd.results76, go_sem]) rfl ⟨rfl, b⟩
  | 34, hc, w => by
    have h := mul64_b 34 hc w
    go_enter Tryd.func76, Tryd.ntmps76
    go_wp2_with fail
    refine h.mono ?_
    rintro e w1 ⟨rfl, b⟩
    go_wp2
    exact bodyPost_ret (v := .tuple #[.int .u64 0, .int .u64 _]) (by simp [results, Tryd.results76, go_sem]) rfl ⟨rfl, b⟩
  | 35, hc, w => by
    have h := mul64_b 35 hc w
    go_enter Tryd.func76, Tryd.ntmps76
    go_wp2_with fail
    refine h.mono ?_
    rintro e w1 ⟨rfl, b⟩
    go_wp2
    exact bodyPost_ret (v := .tuple #[.int .u64 0, .int .u64 _]) (by simp [results, Tryd.results76, go_sem]) rfl ⟨rfl, b⟩
  | 36, hc, w => by
    have h := mul64_b 36 hc w
    go_enter Tryd.func76, Tryd.ntmps76
    go_wp2_with fail
    refine h.mono ?_
    rintro e w1 ⟨rfl, b⟩
    go_wp2
    exact bodyPost_ret (v := .tuple #[.int .u64 0, .int .u64 _]) (by simp [results, Tryd.results76, go_sem]) rfl ⟨rfl, b⟩
  | 37, hc, w => by
    have h := mul64_b 37 hc w
    go_enter Tryd.func76, Tryd.ntmps76
    go_wp2_with fail
    refine h.mono ?_
    rintro e w1 ⟨rfl, b⟩
    go_wp2
    exact bodyPost_ret (v := .tuple #[.int .u64 0, .int .u64 _]) (by simp [results, Tryd.results76, go_sem]) rfl ⟨rfl, b⟩
  | 38, hc, w => by
    have h := mul64_b 38 hc w
    go_enter Tryd.func76, Tryd.ntmps76
    go_wp2_with fail
    refine h.mono ?_
    rintro e w1 ⟨rfl, b⟩
    go_wp2
    exact bodyPost_ret (v := .tuple #[.int .u64 0, .int .u64 _]) (by simp [results, Tryd.results76, go_sem]) rfl ⟨rfl, b⟩
  | 39, hc, w => by
    have h := mul64_b 39 hc w
    go_enter Tryd.func76, Tryd.ntmps76
    go_wp2_with fail
    refine h.mono ?_
    rintro e w1 ⟨rfl, b⟩
    go_wp2
    exact bodyPost_ret (v := .tuple #[.int .u64 0, .int .u64 _]) (by simp [results, Tryd.results76, go_sem]) rfl ⟨rfl, b⟩
  | 40, hc, w => by
    have h := mul64_b 40 hc w
    go_enter Tryd.func76, Tryd.ntmps76
    go_wp2_with fail
    refine h.mono ?_
    rintro e w1 ⟨rfl, b⟩
    go_wp2
    exact bodyPost_ret (v := .tuple #[.int .u64 0, .int .u64 _]) (by simp [results, Tryd.results76, go_sem]) rfl ⟨rfl, b⟩
  | 41, hc, w => by
    have h := mul64_b 41 hc w
    go_enter Tryd.func76, Tryd.ntmps76
    go_wp2_with fail
    refine h.mono ?_
    rintro e w1 ⟨rfl, b⟩
    go_wp2
    exact bodyPost_ret (v := .tuple #[.int .u64 0, .int .u64 _]) (by simp [results, Tryd.results76, go_sem]) rfl ⟨rfl, b⟩
  | 42, hc, w => by
    have h := mul64_b 42 hc w
    go_enter Tryd.func76, Tryd.ntmps76
    go_wp2_with fail
    refine h.mono ?_
    rintro e w1 ⟨rfl, b⟩
    go_wp2
    exact bodyPost_ret (v := .tuple #[.int .u64 0, .int .u64 _]) (by simp [results, Tryd.results76, go_sem]) rfl ⟨rfl, b⟩
  | 43, hc, w => by
    have h := mul64_b 43 hc w
    go_enter Tryd.func76, Tryd.ntmps76
    go_wp2_with fail
    refine h.mono ?_
    rintro e w1 ⟨rfl, b⟩
    go_wp2
    exact bodyPost_ret (v := .tuple #[.int .u64 0, .int .u64 _]) (by simp [results, Tryd.results76, go_sem]) rfl ⟨rfl, b⟩
  | 44, hc, w => by
    have h := mul64_b 44 hc w
    go_enter Tryd.func76, Tryd.ntmps76
    go_wp2_with fail
    refine h.mono ?_
    rintro e w1 ⟨rfl, b⟩
    go_wp2
    exact bodyPost_ret (v := .tuple #[.int .u64 0, .int .u64 _]) (by simp [results, Tryd.results76, go_sem]) rfl ⟨rfl, b⟩
  | 45, hc, w => by
    have h := mul64_b 45 hc w
    go_enter Tryd.func76, Tryd.ntmps76
    go_wp2_with fail
    refine h.mono ?_
    rintro e w1 ⟨rfl, b⟩
    go_wp2
    exact bodyPost_ret (v := .tuple #[.int .u64 0, .int .u64 _]) (by simp [results, Tryd.results76, go_sem]) rfl ⟨rfl, b⟩
  | 46, hc, w => by
    have h := mul64_b 46 hc w
    go_enter Tryd.func76, Tryd.ntmps76
    go_wp2_with fail
    refine h.mono ?_
    rintro e w1 ⟨rfl, b⟩
    go_wp2
    exact bodyPost_ret (v := .tuple #[.int .u64 0, .int .u64 _]) (by simp [results, Tryd.results76, go_sem]) rfl ⟨rfl, b⟩
  | 47, hc, w => by
    have h := mul64_b 47 hc w
    go_enter Tryd.func76, Tryd.ntmps76
    go_wp2_with fail
    refine h.mono ?_
    rintro e w1 ⟨rfl, b⟩
    go_wp2
    exact bodyPost_ret (v := .tuple #[.int .u64 0, .int .u64 _]) (by simp [results, Tryd.results76, go_sem]) rfl ⟨rfl, b⟩
  | 48, hc, w => by
    have h := mul64_b 48 hc w
    go_enter Tryd.func76, Tryd.ntmps76
    go_wp2_with fail
    refine h.mono ?_
    rintro e w1 ⟨rfl, b⟩
    go_wp2
    exact bodyPost_ret (v := .tuple #[.int .u64 0, .int .u64 _]) (by simp [results, Tryd.results76, go_sem]) rfl ⟨rfl, b⟩
  | 49, hc, w => by
    have h := mul64_b 49 hc w
    go_enter Tryd.func76, Tryd.ntmps76
    go_wp2_with fail
    refine h.mono ?_
    rintro e w1 ⟨rfl, b⟩
    go_wp2
    exact bodyPost_ret (v := .tuple #[.int .u64 0, .int .u64 _]) (by simp [results, Tryd.results76, go_sem]) rfl ⟨rfl, b⟩
  | 50, hc, w => by
    have h := mul64_b 50 hc w
    go_enter Tryd.func76, Tryd.ntmps76
    go_wp2_with fail
    refine h.mono ?_
    rintro e w1 ⟨rfl, b⟩
    go_wp2
    exact bodyPost_ret (v := .tuple #[.int .u64 0, .int .u64 _]) (by simp [results, Tryd.results76, go_sem]) rfl ⟨rfl, b⟩
  | 51, hc, w => by
    have h := mul64_b 51 hc w
    go_enter Tryd.func76, Tryd.ntmps76
    go_wp2_with fail
    refine h.mono ?_
    rintro e w1 ⟨rfl, b⟩
    go_wp2
    exact bodyPost_ret (v := .tuple #[.int .u64 0, .int .u64 _]) (by simp [results, Tryd.results76, go_sem]) rfl ⟨rfl, b⟩
  | 52, hc, w => by
    have h := mul64_b 52 hc w
    go_enter Tryd.func76, Tryd.ntmps76
    go_wp2_with fail
    refine h.mono ?_
    rintro e w1 ⟨rfl, b⟩
    go_wp2
    exact bodyPost_ret (v := .tuple #[.int .u64 0, .int .u64 _]) (by simp [results, Tryd.results76, go_sem]) rfl ⟨rfl, b⟩
  | 53, hc, w => by
    have h := mul64_b 53 hc w
    go_enter Tryd.func76, Tryd.ntmps76
    go_wp2_with fail
    refine h.mono ?_
    rintro e w1 ⟨rfl, b⟩
    go_wp2
    exact bodyPost_ret (v := .tuple #[.int .u64 0, .int .u64 _]) (by simp [results, Tryd.results76, go_sem]) rfl ⟨rfl, b⟩
  | 54, hc, w => by
    have h := mul64_b 54 hc w
    go_enter Tryd.func76, Tryd.ntmps76
    go_wp2_with fail
    refine h.mono ?_
    rintro e w1 ⟨rfl, b⟩
    go_wp2
    exact bodyPost_ret (v := .tuple #[.int .u64 0, .int .u64 _]) (by simp [results, Tryd.results76, go_sem]) rfl ⟨rfl, b⟩
  | 55, hc, w => by
    have h := mul64_b 55 hc w
    go_enter Tryd.func76, Tryd.ntmps76
    go_wp2_with fail
    refine h.mono ?_
    rintro e w1 ⟨rfl, b⟩
    go_wp2
    exact bodyPost_ret (v := .tuple #[.int .u64 0, .int .u64 _]) (by simp [results, Tryd.results76, go_sem]) rfl ⟨rfl, b⟩
  | 56, hc, w => by
    have h := mul64_b 56 hc w
    go_enter Tryd.func76, Tryd.ntmps76
    go_wp2_with fail
    refine h.mono ?_
    rintro e w1 ⟨rfl, b⟩
    go_wp2
    exact bodyPost_ret (v := .tuple #[.int .u64 0, .int .u64 _]) (by simp [results, Tryd.results76, go_sem]) rfl ⟨rfl, b⟩
  | 57, hc, w => by
    have h := mul64_b 57 hc w
    go_enter Tryd.func76, Tryd.ntmps76
    go_wp2_with fail
    refine h.mono ?_
    rintro e w1 ⟨rfl, b⟩
    go_wp2
    exact bodyPost_ret (v := .tuple #[.int .u64 0, .int .u64 _]) (by simp [results, Tryd.results76, go_sem]) rfl ⟨rfl, b⟩
  | 58, hc, w => by
    have h := mul64_b 58 hc w
    go_enter Tryd.func76, Tryd.ntmps76
    go_wp2_with fail
    refine h.mono ?_
    rintro e w1 ⟨rfl, b⟩
    go_wp2
    exact bodyPost_ret (v := .tuple #[.int .u64 0, .int .u64 _]) (by simp [results, Tryd.results76, go_sem]) rfl ⟨rfl, b⟩
  | 59, hc, w => by
    have h := mul64_b 59 hc w
    go_enter Tryd.func76, Tryd.ntmps76
    go_wp2_with fail
    refine h.mono ?_
    rintro e w1 ⟨rfl, b⟩
    go_wp2
    exact bodyPost_ret (v := .tuple #[.int .u64 0, .int .u64 _]) (by simp [results, Tryd.results76, go_sem]) rfl ⟨rfl, b⟩
  | 60, hc, w => by
    have h := mul64_b 60 hc w
    go_enter Tryd.func76, Tryd.ntmps76
    go_wp2_with fail
    refine h.mono ?_
    rintro e w1 ⟨rfl, b⟩
    go_wp2
    exact bodyPost_ret (v := .tuple #[.int .u64 0, .int .u64 _]) (by simp [results, Tryd.results76, go_sem]) rfl ⟨rfl, b⟩
  | c + 61, h, _ => absurd h (by omega)

end Go.Proofs.YtjochoghmpcgdaaDoor

/-
  Contracts of the library, laid at this program (by a program of this claim's own, layn.py, after the kit's own laying).
-/
namespace Go.Proofs
open Go.Shelf
def Tryd.lays166_ren : Go.Shelf.Ren := ⟨fun | 166 => 52 | 240 => 80 | 276 => 97 | n => n, fun | 0 => 0 | 3 => 3 | 4 => 4 | 5 => 5 | 9 => 9 | 20 => 20 | 37 => 22 | 70 => 92 | 72 => 94 | 75 => 99 | 80 => 103 | 164 => 152 | n => n, fun | n => n⟩
theorem Tryd.lays166 : Go.Proofs.Lays.n166 Tryd.prog Tryd.lays166_ren := {
  mixed := by kernel_rfl
  f166 := Tryd.func52.trans (congrArg some (by kernel_rfl))
  f240 := Tryd.func80.trans (congrArg some (by kernel_rfl))
  f276 := Tryd.func97.trans (congrArg some (by kernel_rfl))
  t0 := Tryd.underlying0
  a0 := Tryd.isAgg0
  z0 := Tryd.sizeOf0
  v0 := Tryd.zeroValue0
  t3 := Tryd.underlying3
  a3 := Tryd.isAgg3
  z3 := Tryd.sizeOf3
  v3 := Tryd.zeroValue3
  t4 := Tryd.underlying4
  a4 := Tryd.isAgg4
  z4 := Tryd.sizeOf4
  v4 := Tryd.zeroValue4
  t9 := Tryd.underlying9
  a9 := Tryd.isAgg9
  z9 := Tryd.sizeOf9
  v9 := Tryd.zeroValue9
  t20 := Tryd.underlying20
  a20 := Tryd.isAgg20
  z20 := Tryd.sizeOf20
  v20 := Tryd.zeroValue20
  t37 := Tryd.underlying22
  a37 := Tryd.isAgg22
  z37 := Tryd.sizeOf22
  v37 := Tryd.zeroValue22
  t70 := Tryd.underlying92
  a70 := Tryd.isAgg92
  z70 := Tryd.sizeOf92
  v70 := Tryd.zeroValue92
  t72 := Tryd.underlying94
  a72 := Tryd.isAgg94
  z72 := Tryd.sizeOf94
  v72 := Tryd.zeroValue94
  t75 := Tryd.underlying99
  a75 := Tryd.isAgg99
  z75 := Tryd.sizeOf99
  v75 := Tryd.zeroValue99
  t164 := Tryd.underlying152
  a164 := Tryd.isAgg152
  z164 := Tryd.sizeOf152
  v164 := Tryd.zeroValue152 }
def Tryd.lays169_ren : Go.Shelf.Ren := ⟨fun | 169 => 54 | n => n, fun | 0 => 0 | 3 => 3 | 5 => 5 | 9 => 9 | 37 => 22 | 70 => 92 | 72 => 94 | 127 => 133 | n => n, fun | n => n⟩
theorem Tryd.lays169 : Go.Proofs.Lays.n169 Tryd.prog Tryd.lays169_ren := {
  mixed := by kernel_rfl
  f169 := Tryd.func54.trans (congrArg some (by kernel_rfl))
  t0 := Tryd.underlying0
  a0 := Tryd.isAgg0
  z0 := Tryd.sizeOf0
  v0 := Tryd.zeroValue0
  t3 := Tryd.underlying3
  a3 := Tryd.isAgg3
  z3 := Tryd.sizeOf3
  v3 := Tryd.zeroValue3
  t9 := Tryd.underlying9
  a9 := Tryd.isAgg9
  z9 := Tryd.sizeOf9
  v9 := Tryd.zeroValue9
  t37 := Tryd.underlying22
  a37 := Tryd.isAgg22
  z37 := Tryd.sizeOf22
  v37 := Tryd.zeroValue22
  t70 := Tryd.underlying92
  a70 := Tryd.isAgg92
  z70 := Tryd.sizeOf92
  v70 := Tryd.zeroValue92
  t72 := Tryd.underlying94
  a72 := Tryd.isAgg94
  z72 := Tryd.sizeOf94
  v72 := Tryd.zeroValue94
  t127 := Tryd.underlying133
  a127 := Tryd.isAgg133
  z127 := Tryd.sizeOf133
  v127 := Tryd.zeroValue133 }
theorem Tryd.bldX : Builder.Extra Tryd.prog Tryd.lays166_ren where
  sizeBuilder := by kernel_rfl
  liesBuilder := by kernel_rfl
  t5 := Tryd.underlying5
  a5 := Tryd.isAgg5
  z5 := Tryd.sizeOf5
  v5 := Tryd.zeroValue5
  infoByte := by kernel_rfl
  cellsByte := by kernel_rfl
  sizeByte := by kernel_rfl
  neB5 := by decide
theorem Tryd.bldX9 : Builder.Extra Tryd.prog Tryd.lays169_ren where
  sizeBuilder := by kernel_rfl
  liesBuilder := by kernel_rfl
  t5 := Tryd.underlying5
  a5 := Tryd.isAgg5
  z5 := Tryd.sizeOf5
  v5 := Tryd.zeroValue5
  infoByte := by kernel_rfl
  cellsByte := by kernel_rfl
  sizeByte := by kernel_rfl
  neB5 := by decide
end Go.Proofs

/-
  Contracts of the library, laid at this program (by a program of this claim's own, layn.py, after the kit's own laying).
-/
namespace Go.Proofs
open Go.Shelf
def Tryd.lays170_ren : Go.Shelf.Ren := ⟨fun | 170 => 53 | n => n, fun | 0 => 0 | 3 => 3 | 5 => 5 | 37 => 22 | 70 => 92 | 72 => 94 | n => n, fun | n => n⟩
theorem Tryd.lays170 : Go.Proofs.Lays.n170 Tryd.prog Tryd.lays170_ren := {
  mixed := by kernel_rfl
  f170 := Tryd.func53.trans (congrArg some (by kernel_rfl))
  t0 := Tryd.underlying0
  a0 := Tryd.isAgg0
  z0 := Tryd.sizeOf0
  v0 := Tryd.zeroValue0
  t3 := Tryd.underlying3
  a3 := Tryd.isAgg3
  z3 := Tryd.sizeOf3
  v3 := Tryd.zeroValue3
  t37 := Tryd.underlying22
  a37 := Tryd.isAgg22
  z37 := Tryd.sizeOf22
  v37 := Tryd.zeroValue22
  t70 := Tryd.underlying92
  a70 := Tryd.isAgg92
  z70 := Tryd.sizeOf92
  v70 := Tryd.zeroValue92
  t72 := Tryd.underlying94
  a72 := Tryd.isAgg94
  z72 := Tryd.sizeOf94
  v72 := Tryd.zeroValue94 }
end Go.Proofs

/-
  A builder of the call's own, beside other memory of its own.
-/
namespace Go.Proofs.YtjochoghmpcgdaaDoor
open Go.RowKit

abbrev tBld : TypeId := 94
abbrev tU8 : TypeId := 5

/-- A builder in block b (from block B on) that holds these bytes. -/
def BldK (B b : Nat) (l : List UInt8) (w : World) : Prop := Lib.IsBuilderF 94 5 B b (Lib.byteCells l) w

theorem BldK.new (w : World) : BldK w.heap.size w.heap.size [] (w.alloc (.cells #[.pointer none, .slice none 0 0] 94)) := Lib.IsBuilderF.of (Lib.fresh_isBuilder _ _ w)

/-- What a call on the builder leaves of all else. -/
structure CalmB (b : Nat) (w w' : World) : Prop where
  kept : ∀ (k : Nat) (cs : Array Value) (ty : TypeId) (fz : Nat × Nat), w.heap[k]? = some (Obj.cells cs ty fz) → ty ≠ 94 → ty ≠ 5 → w'.heap[k]? = some (Obj.cells cs ty fz)

theorem calmB_of {B b : Nat} {l : List UInt8} {w w' : World} (h : BldK B b l w) (hk : Lib.OthersKept 5 (some b) w w') : CalmB b w w' := ⟨fun k cs ty fz h1 h2 h3 => by
  refine hk k _ h1 (fun e => ?_) (fun c fz' e => h3 (by cases e; rfl))
  cases e
  rcases h with h | h
  · obtain ⟨_, v, hb, _⟩ := h
    rw [hb] at h1
    cases h1
    exact h2 rfl
  · obtain ⟨_, v, hb, _⟩ := h
    rw [hb] at h1
    cases h1
    exact h2 rfl⟩

theorem writeK_any (B b : Nat) (l : List UInt8) (s : ByteArray) (w : World) (h : BldK B b l w) (hlen : l.length + s.size ≤ 1000000) (hB : B ≤ w.heap.size) :
    Calls Tryd.prog 52 #[.pointer (some ⟨b, 0, none⟩), .string s] w (fun e w' => e = .returned (.tuple #[.int .i64 s.size, .nilIface]) ∧ BldK B b (l ++ s.data.toList) w' ∧ Below B w w' ∧ CalmB b w w') := by
  refine (Any.Builder_WriteString_k Tryd.lays166 Tryd.bldX B b (Lib.byteCells l) s w h (by rw [Lib.byteCells_length]; omega) hB).mono ?_
  rintro e w' ⟨rfl, h1, h2, h3⟩
  refine ⟨rfl, .inr ?_, h2, calmB_of h h3⟩
  rw [Lib.byteCells_append, ← Lib.strCells_eq]
  exact h1

theorem lenK_any (B b : Nat) (l : List UInt8) (w : World) (h : BldK B b l w) :
    Calls Tryd.prog 53 #[.pointer (some ⟨b, 0, none⟩)] w (fun e w' => e = .returned (.int .i64 l.length) ∧ w' = w) := by
  refine (Any.Builder_Len_f Tryd.lays170 B b (Lib.byteCells l) w h).mono ?_
  rintro e w' ⟨rfl, rfl⟩
  rw [Lib.byteCells_length]
  exact ⟨rfl, rfl⟩

theorem stringK_any (B b : Nat) (l : List UInt8) (w : World) (h : BldK B b l w) (hB : B ≤ w.heap.size) :
    Calls Tryd.prog 54 #[.pointer (some ⟨b, 0, none⟩)] w (fun e w' => e = .returned (.string ⟨l.toArray⟩) ∧ Below B w w' ∧ CalmB b w w') := by
  refine (Any.Builder_String_any_k Tryd.lays169 Tryd.bldX9 B b l w h hB).mono ?_
  rintro e w' ⟨rfl, -, h2, h3⟩
  exact ⟨rfl, h2, calmB_of h h3⟩

/-- Nothing but blocks of other types. -/
def Ob.Far (P : Ob) : Prop := ∀ w f, P.holds w f → ∀ k, k ∈ f → ∃ (cs : Array Value) (ty : TypeId) (fz : Nat × Nat), w.heap[k]? = some (Obj.cells cs ty fz) ∧ ty ≠ 94 ∧ ty ≠ 5

theorem Star.calm {w0 w w' : World} {ps : List Ob} {b : Nat} (S : Star w0 w ps) (hf : ∀ P, P ∈ ps → P.Far) (hb : Below w0.heap.size w w') (hc : CalmB b w w') : Star w0 w' ps := by
  obtain ⟨B, fp, hh, d⟩ := S
  refine ⟨B.trans hb, fp, fun i P hP => ?_, d⟩
  obtain ⟨h1, h2, h3⟩ := hh i P hP
  refine ⟨P.frame (fun k hk => ?_) h1, h2, fun k hk => ⟨(h3 k hk).1, Nat.lt_of_lt_of_le (h3 k hk).2 hb.size⟩⟩
  obtain ⟨cs, ty, fz, e1, e2, e3⟩ := hf P (List.mem_of_getElem? hP) w _ h1 k hk
  rw [e1]
  exact hc.kept k cs ty fz e1 e2 e3

theorem far_oB {g : Nat} {cs : List Value} {ty : TypeId} (h1 : ty ≠ 94) (h2 : ty ≠ 5) : (oB g cs ty).Far := by
  intro w f hf k hk
  rw [hf.2] at hk
  rw [List.mem_singleton.1 hk]
  exact ⟨_, _, _, hf.1, h1, h2⟩

theorem far_flat {α : Type} {E : Enc α} {ty : TypeId} {v : Value} {l : List α} (hfl : ∀ w cs x f, E.ow w cs x f → f = []) (h1 : ty ≠ 94) (h2 : ty ≠ 5) : (oE (sliceE E ty) [v] l).Far := by
  intro w f hf k hk
  obtain ⟨v', xss, fps, he, f1, f2, rfl⟩ := hf
  simp only [List.cons.injEq, and_true] at he
  subst he
  obtain ⟨hx, h3⟩ := f2
  have hf0 := f1.flat_fp hfl
  rw [hf0, List.append_nil] at hk
  rcases h3 with ⟨h3, -⟩ | ⟨g', cap, cur, e3, hg, hh, -⟩
  · rw [h3] at hk; simp [Value.ownBlock] at hk
  · rw [e3] at hk
    simp [Value.ownBlock] at hk
    rw [hk]
    exact ⟨_, _, _, hh, h1, h2⟩

theorem flat_pl (w : World) (cs : List Value) (x : Pl) (f : List Nat) (h : plE.ow w cs x f) : f = [] := by
  obtain ⟨c1, c2, f1, f2, rfl, rfl, ⟨-, rfl⟩, -, rfl⟩ := h
  rfl

end Go.Proofs.YtjochoghmpcgdaaDoor

/-
  The library's Repeat of one letter 'a', up to sixty times.
-/
namespace Go.Proofs.YtjochoghmpcgdaaDoor
open Go.RowKit

theorem inf_U8 : (Tryd.prog.info? 5).map (fun i => (i.zero, i.size, i.bytes)) = some (some (.int .u8 0), 1, 1) := by kernel_rfl

/-- c letters in the making: n of them laid. -/
def repL (c n : Nat) : List Value := List.replicate n (.int .u8 97) ++ List.replicate (c - n) (.int .u8 0)

theorem repL_len {c n : Nat} (h : n ≤ c) : (repL c n).length = c := by
  unfold repL; rw [List.length_append, List.length_replicate, List.length_replicate]; omega

theorem repL_copy (c n m : Nat) (h : n + m ≤ c) : (repL c n).take n ++ List.replicate m (.int .u8 97) ++ (repL c n).drop (n + (List.replicate m (Value.int .u8 97)).length) = repL c (n + m) := by
  unfold repL
  rw [List.take_left' List.length_replicate, List.length_replicate, ← List.drop_drop, List.drop_left' List.length_replicate, List.drop_replicate, ← List.replicate_append_replicate]
  congr 2
  omega

theorem repL_src {w : World} {q : Nat} {ty : TypeId} {c n m : Nat} (A : Blk w q (repL c n) ty) (h : m ≤ n) : ∀ j v, (List.replicate m (Value.int .u8 97))[j]? = some v → w.cell? ((⟨q, 0, none⟩ : Addr).add j) = some v := by
  intro j v hv
  rw [Addr.add_lit, Nat.zero_add]
  refine A.cell j ?_
  have hj := (List.getElem?_eq_some_iff.1 hv).1
  rw [List.length_replicate] at hj
  rw [List.getElem?_replicate, if_pos hj] at hv
  unfold repL
  rw [List.getElem?_append_left (by rw [List.length_replicate]; omega), List.getElem?_replicate, if_pos (by omega)]
  exact hv

theorem one_rep (m : Nat) : ∀ v, v ∈ List.replicate m (Value.int .u8 97) → v.oneCell' = true := by
  intro v hv
  rw [List.eq_of_mem_replicate hv]
  rfl

theorem blk_listB (w : World) (l : List Value) (ty : TypeId) : Blk (w.alloc (.cells l.toArray ty)) w.heap.size l ty := Blk.new w l.toArray ty

theorem src_allocB {w : World} {a : Addr} {v : Value} (h : w.cell? a = some v) (o : Obj) : (w.alloc o).cell? a = some v := (((Below.refl w.heap.size w).alloc (Nat.le_refl _) o).cell (World.block_lt_of_cell? w _ h)).trans h

/-- A row of bytes handed back. -/
def RowB (cs : List Value) (n : Nat) (w : World) (e : Ending) (w' : World) : Prop := ∃ q, e = .returned (.slice (some ⟨q, 0, none⟩) n n) ∧ Blk w' q cs 5 ∧ w.heap.size ≤ q ∧ Below w.heap.size w w'

set_option maxHeartbeats 4000000 in
set_option maxRecDepth 100000 in
theorem repeat_b (g cap c : Nat) (hc : 1 ≤ c ∧ c ≤ 60) (w : World) (h0 : w.cell? ⟨g, 0, none⟩ = some (.int .u8 97)) :
    Calls Tryd.prog 48 #[.slice (some ⟨g, 0, none⟩) 1 cap, .int .i64 (c : Nat)] w (RowB (List.replicate c (.int .u8 97)) c w) := by
  have hg := World.block_lt_of_cell? w _ h0
  obtain ⟨i, hi, hz0, hz1, hz2⟩ := info_parts inf_U8
  have hsz : (Tryd.prog.info? 5).map (·.size) = some 1 := by rw [hi]; exact congrArg some hz1
  have hmk := make_run (P := Tryd.prog) Tryd.underlying22 hi hz0 hz1 c (by rw [hz2]; omega) (by omega)
  have hmc : (madeCells (Value.int .u8 0).cells c) = (repL c 0).toArray := by
    rw [← Array.toList_inj]
    exact (toList_madeCells_one _ _).trans (by simp [repL])
  rw [hmc] at hmk
  have wu : IntKind.u64.wrap (c : Int) = (c : Int) := IntWalk.u64_in _ ⟨by omega, by omega⟩
  have wi : IntKind.i64.wrap (c : Int) = (c : Int) := IntWalk.i64_in _ ⟨by omega, by omega⟩
  have hmul := Lib.hid (mul_b c hc.2)
  have HZ := Lib.hid hsz
  obtain ⟨L, hL⟩ : ∃ L : Nat → List Value, L = repL c := ⟨_, rfl⟩
  rw [← hL] at hmk
  have HL := Lib.hid hL
  have hlt0 : ¬ (c : Int) < 0 := by omega
  have hgt : ¬ (9223372036854775807 : Int) < (c : Int) := by omega
  clear hi hz0 hz1 hz2 hmc hL hsz
  go_enter Tryd.func48, Tryd.ntmps48
  go_wp2_with fail
  refine (hmul.out w).mono ?_
  rintro e w1 ⟨rfl, b⟩
  have d0 := (b.cell (p := ⟨g, 0, none⟩) hg).trans h0
  have HA1 := Lib.hid (blk_listB w1 (L 0) 5)
  have HA2 := Lib.hid (show ∀ j v, [Value.int .u8 97][j]? = some v → (w1.alloc (.cells (L 0).toArray 5)).cell? ((⟨g, 0, none⟩ : Addr).add j) = some v from fun j v hv => by
    match j with
    | 0 =>
      obtain rfl : _ = v := by simpa using hv
      rw [Addr.add_lit]
      exact src_allocB d0 _
    | j + 1 => simp at hv)
  have HA3 := Lib.hid (show 0 + [Value.int .u8 97].length ≤ (L 0).length by rw [HL.out, repL_len (Nat.zero_le _)]; exact hc.1)
  have HB0 := Lib.hid (b.alloc b.size (.cells (L 0).toArray 5))
  have hs1 := b.size
  have HM := Lib.hid (show 1 = Nat.min 1 c from (Nat.min_eq_left hc.1).symm)
  have HO := Lib.hid (show ∀ v, v ∈ [Value.int .u8 97] → v.oneCell' = true from one_mem rfl)
  have HF := Lib.hid (show List.take 0 (L 0) ++ [Value.int .u8 97] ++ List.drop (0 + [Value.int .u8 97].length) (L 0) = L 1 by rw [HL.out]; simpa using repL_copy c 0 1 (by omega))
  go_wp2_with (refine wpList_copy_wide rfl (.tmp 31) (.tmp 32) 22 22 rfl 5 1 Tryd.underlying22 HZ.out w1.heap.size 0 _ _ ⟨g, 0, none⟩ 1 cap rfl rfl (L 0) 5 HA1.out [.int .u8 97] 1 HM.out rfl HA2.out HA3.out HO.out (L 1) HF.out _ w HB0.out hs1 ?_; intro w2 HA1' B1)
  have A1 := HA1'.out
  obtain ⟨q, hq⟩ : ∃ q, q = w1.heap.size := ⟨_, rfl⟩
  rw [← hq] at A1 hs1 ⊢
  clear HA1 HA2 HA3 HB0 HF HA1' d0 hq HM HO
  go_loopw [8] (fun s wr => ∃ n : Nat, 1 ≤ n ∧ n ≤ c ∧ s = .int .i64 n ∧ Blk wr q (L n) 5 ∧ Below w.heap.size w wr) (fun s _ => c - (intOf s).toNat)
  case atStart => exact ⟨1, by omega, by omega, rfl, A1, B1⟩
  case round =>
    clear A1 B1
    obtain ⟨n, hn1, hn, rfl, A1, B1⟩ := hrel
    by_cases hlt : n < c
    case neg =>
      obtain rfl : n = c := by omega
      go_wp2
      go_ret
      rw [HL.out] at A1
      have e : repL n n = List.replicate n (.int .u8 97) := by unfold repL; simp
      rw [e] at A1
      exact ⟨q, rfl, A1, hs1, B1⟩
    have HAL := Lib.hid A1
    have HBL := Lib.hid B1
    have hsq := A1.lt
    obtain ⟨m, hm⟩ : ∃ m, m = Nat.min n (c - n) := ⟨_, rfl⟩
    have hmn : m ≤ n := by rw [hm]; exact Nat.min_le_left _ _
    have hmc : m ≤ c - n := by rw [hm]; exact Nat.min_le_right _ _
    have hm1 : 1 ≤ m := by rw [hm]; exact Nat.le_min.2 ⟨hn1, by omega⟩
    have HA2 := Lib.hid (repL_src (m := m) (HL.out ▸ HAL.out) hmn)
    have HA3 := Lib.hid (show n + (List.replicate m (Value.int .u8 97)).length ≤ (L n).length by rw [HL.out, repL_len hn, List.length_replicate]; omega)
    have HA4 := Lib.hid (show (L n).take n ++ List.replicate m (.int .u8 97) ++ (L n).drop (n + (List.replicate m (Value.int .u8 97)).length) = L (n + m) by rw [HL.out]; exact repL_copy c n m (by omega))
    have HA5 := Lib.hid (show (List.replicate m (Value.int .u8 97)).length = m * 1 by rw [List.length_replicate, Nat.mul_one])
    obtain ⟨Y, hY⟩ : ∃ Y, Y = List.replicate m (Value.int .u8 97) := ⟨_, rfl⟩
    rw [← hY] at HA2 HA3 HA4 HA5
    have HO := Lib.hid (one_rep m)
    rw [← hY] at HO
    have HMM := Lib.hid hm
    clear A1 B1 hY hm
    have i1 : (0 : Int) ≤ (n : Int) := by omega
    have i2 : (n : Int) ≤ (c : Int) := by omega
    have hcn : ¬ c = n := by omega
    have ws : IntKind.i64.wrap ((n : Int) + (m : Int)) = (n : Int) + (m : Int) := IntWalk.i64_in _ ⟨by omega, by omega⟩
    go_upto_region 9 with fail
    go_region_held3 (fun w' => q < w'.heap.size) (first | exact hsq | exact HA6.out.lt | go_keep) (first | (refine step_copy_wide rfl (.tmp 41) (.tmp 44) 22 22 rfl 5 1 Tryd.underlying22 HZ.out q n _ _ ⟨q, 0, none⟩ _ _ rfl rfl (L n) 5 (by exact HAL.out) Y m HMM.out HA5.out (by exact HA2.out) HA3.out HO.out (L (n + m)) HA4.out _ w (by first | exact HBL.out | exact HBL.out.drew) hs1 ?_; intro w3 HA6 B3))
    all_goals go_wp2
    go_roundw
    case rel => exact ⟨n + m, by omega, by omega, by simp, HA6.out, B3⟩
    case measure => simp [intOf]; omega

set_option maxHeartbeats 4000000 in
theorem repeat_0 (g cap : Nat) (w : World) (h0 : w.cell? ⟨g, 0, none⟩ = some (.int .u8 97)) :
    Calls Tryd.prog 48 #[.slice (some ⟨g, 0, none⟩) 1 cap, .int .i64 0] w (RowB [] 0 w) := by
  obtain ⟨i, hi, hz0, hz1, hz2⟩ := info_parts inf_U8
  have hsz : (Tryd.prog.info? 5).map (·.size) = some 1 := by rw [hi]; exact congrArg some hz1
  have hmk : ∀ w', (Instr.makeSlice 22 (.int .i64 0) (.int .i64 0)).run Tryd.prog w' = .ok (.slice (some ⟨w'.heap.size, 0, none⟩) 0 0) (w'.alloc (.cells #[] 5)) := fun w' => by
    have h := make_run (P := Tryd.prog) Tryd.underlying22 hi hz0 hz1 0 (by omega) (by omega) w'
    rw [show madeCells (Value.int .u8 0).cells 0 = #[] from by rw [← Array.toList_inj]; exact (toList_madeCells_one _ _).trans rfl] at h
    exact h
  have HZ := Lib.hid hsz
  have hmul := Lib.hid (show Calls Tryd.prog 76 #[.int .u64 1, .int .u64 0] w (Gives (.tuple #[.int .u64 0, .int .u64 0]) w) from mul_b 0 (by omega) w)
  clear hi hz0 hz1 hz2 hsz
  go_enter Tryd.func48, Tryd.ntmps48
  go_wp2_with fail
  refine (hmul.out).mono ?_
  rintro e w1 ⟨rfl, b⟩
  have HA1 := Lib.hid (blk_listB w1 [] 5)
  have HB0 := Lib.hid (b.alloc b.size (.cells #[] 5))
  have hs1 := b.size
  go_wp2_with (refine wpList_copy_wide rfl (.tmp 31) (.tmp 32) 22 22 rfl 5 1 Tryd.underlying22 HZ.out w1.heap.size 0 _ _ ⟨g, 0, none⟩ 1 cap rfl rfl [] 5 HA1.out [] 0 rfl rfl (fun j v hv => by simp at hv) (Nat.le_refl _) (fun v hv => by cases hv) [] rfl _ w HB0.out hs1 ?_; intro w2 HA1' B1)
  go_loopw [8] (fun s wr => s = .int .i64 0 ∧ Blk wr w1.heap.size [] 5 ∧ Below w.heap.size w wr) (fun _ _ => 0)
  case atStart => exact ⟨rfl, HA1'.out, B1⟩
  case round =>
    obtain ⟨rfl, A1, B2⟩ := hrel
    go_wp2
    go_ret
    exact ⟨w1.heap.size, rfl, A1, hs1, B2⟩

end Go.Proofs.YtjochoghmpcgdaaDoor

/-
  wordsOf: every word of a length is handed to a function, until it says stop.
-/
namespace Go.Proofs.YtjochoghmpcgdaaDoor
open Go.RowKit

theorem Star.reindex {w0 w : World} {ps qs : List Ob} (S : Star w0 w ps) (σ : Nat → Nat) (h : ∀ i Q, qs[i]? = some Q → ps[σ i]? = some Q) (inj : ∀ i j, i < qs.length → j < qs.length → i ≠ j → σ i ≠ σ j) : Star w0 w qs := by
  obtain ⟨B, fp, hh, d⟩ := S
  have hl : ∀ i, i < qs.length → σ i < ps.length := fun i hi => (List.getElem?_eq_some_iff.1 (h i _ (List.getElem?_eq_getElem hi))).1
  exact ⟨B, fun i => fp (σ i), fun i Q hQ => hh _ Q (h i Q hQ), fun i j hij hi hj => d _ _ (inj i j hi hj hij) (hl i hi) (hl j hj)⟩

theorem Star.mid {w0 w : World} {P : Ob} {xs ps : List Ob} (S : Star w0 w (P :: (xs ++ ps))) : Star w0 w (xs ++ P :: ps) :=
  S.reindex (fun i => if i < xs.length then i + 1 else if i = xs.length then 0 else i) (fun i Q hQ => by
    by_cases h1 : i < xs.length
    · rw [List.getElem?_append_left h1] at hQ
      rw [if_pos h1, List.getElem?_cons_succ, List.getElem?_append_left h1]
      exact hQ
    · rw [List.getElem?_append_right (by omega)] at hQ
      rw [if_neg h1]
      by_cases h2 : i = xs.length
      · rw [if_pos h2]
        rw [h2, Nat.sub_self] at hQ
        exact hQ
      · rw [if_neg h2]
        obtain ⟨k, hk⟩ : ∃ k, i = xs.length + (k + 1) := ⟨i - xs.length - 1, by omega⟩
        rw [hk, Nat.add_sub_cancel_left, List.getElem?_cons_succ] at hQ
        rw [hk, ← Nat.add_assoc, List.getElem?_cons_succ, List.getElem?_append_right (by omega), Nat.add_sub_cancel_left]
        exact hQ) (fun i j hi hj hij => by
    split <;> split <;> (try split) <;> (try split) <;> omega)

theorem Star.mid' {w0 w : World} {P : Ob} {xs ps : List Ob} (S : Star w0 w (xs ++ P :: ps)) : Star w0 w (P :: (xs ++ ps)) :=
  S.reindex (fun i => if i = 0 then xs.length else if i ≤ xs.length then i - 1 else i) (fun i Q hQ => by
    by_cases h1 : i = 0
    · subst h1
      rw [if_pos rfl, List.getElem?_append_right (Nat.le_refl _), Nat.sub_self]
      exact hQ
    · obtain ⟨k, rfl⟩ : ∃ k, i = k + 1 := ⟨i - 1, by omega⟩
      rw [List.getElem?_cons_succ] at hQ
      rw [if_neg h1]
      by_cases h2 : k + 1 ≤ xs.length
      · rw [if_pos h2, Nat.add_sub_cancel, List.getElem?_append_left (by omega)]
        rw [List.getElem?_append_left (by omega)] at hQ
        exact hQ
      · rw [if_neg h2, List.getElem?_append_right (by omega)]
        rw [List.getElem?_append_right (by omega)] at hQ
        obtain ⟨j, hj⟩ : ∃ j, k = xs.length + j := ⟨k - xs.length, by omega⟩
        rw [hj, Nat.add_sub_cancel_left] at hQ
        rw [hj, Nat.add_assoc, Nat.add_sub_cancel_left, List.getElem?_cons_succ]
        exact hQ) (fun i j hi hj hij => by
    split <;> split <;> (try split) <;> (try split) <;> omega)

def scanW {σ : Type} (step : List UInt8 → σ → σ × Bool) : List (List UInt8) → σ → σ × Bool
  | [], s => (s, false)
  | x :: r, s => if (step x s).2 = true then ((step x s).1, true) else scanW step r (step x s).1

def bytesV (l : List UInt8) : List Value := l.map fun b => .int .u8 (b.toNat : Nat)

/-- The number that a row of letters stands for. -/
def numV (c : Nat) (l : List Value) : Nat := l.foldl (fun a v => a * c + ((intOf v).toNat - 97)) 0
def rowAt (w : World) (q : Nat) : List Value := match w.heap[q]? with
  | some (.cells a _ _) => a.toList
  | _ => []

theorem numV_digs {c : Nat} (hc : 1 ≤ c ∧ c ≤ 3) : ∀ n k, k < (wordsN c n).length → numV c (bytesV (digs c n k)) = k
  | 0, k, h => by
    have h0 : k = 0 := by have h2 : k < 1 := h; omega
    subst h0
    rfl
  | n + 1, k, h => by
    rw [wordsN_len] at h
    have hk : k / c < (wordsN c n).length := by rw [Nat.div_lt_iff_lt_mul (by omega)]; exact h
    have ih := numV_digs hc n (k / c) hk
    have hm := Nat.mod_lt k (show 0 < c by omega)
    have e : (UInt8.ofNat (97 + k % c)).toNat = 97 + k % c := by rw [UInt8.toNat_ofNat']; exact Nat.mod_eq_of_lt (by omega)
    unfold numV bytesV at ih ⊢
    rw [digs_last, List.map_append, List.foldl_append, ih]
    show k / c * c + ((((UInt8.ofNat (97 + k % c)).toNat : Nat) : Int).toNat - 97) = k
    rw [Int.toNat_natCast, e, Nat.add_sub_cancel_left, Nat.mul_comm]
    exact Nat.div_add_mod k c

end Go.Proofs.YtjochoghmpcgdaaDoor

/-
  The successor of a word, letter by letter from the right.
-/
namespace Go.Proofs.YtjochoghmpcgdaaDoor

structure NextI (c len k n m : Nat) (row : List UInt8) : Prop where
  le : n ≤ len
  row : row = digs c n m ++ List.replicate (len - n) 97
  nxt : digs c n (m + 1) ++ List.replicate (len - n) 97 = digs c len (k + 1)
  lt : m < (wordsN c n).length
  iff : m + 1 < (wordsN c n).length ↔ k + 1 < (wordsN c len).length

theorem NextI.start {c len k : Nat} (hk : k < (wordsN c len).length) : NextI c len k len k (digs c len k) :=
  ⟨Nat.le_refl _, by rw [Nat.sub_self]; simp, by rw [Nat.sub_self]; simp, hk, Iff.rfl⟩

theorem NextI.stop {c len k m : Nat} {row : List UInt8} (h : NextI c len k 0 m row) : ¬ k + 1 < (wordsN c len).length := fun h2 => by
  have h1 : m + 1 < 1 := h.iff.2 h2
  omega

theorem NextI.at {c len k n m : Nat} {row : List UInt8} (h : NextI c len k (n + 1) m row) : row[n]? = some (UInt8.ofNat (97 + m % c)) := by
  rw [h.row, digs_last, List.append_assoc, List.getElem?_append_right (by rw [digs_len]; exact Nat.le_refl _), digs_len, Nat.sub_self]
  rfl

theorem set_mid {α : Type} (a : List α) (x y : α) (r : List α) : (a ++ x :: r).set a.length y = a ++ y :: r := by
  rw [List.set_append_right _ _ (Nat.le_refl _), Nat.sub_self]
  rfl

theorem NextI.len {c len k n m : Nat} {row : List UInt8} (h : NextI c len k n m row) : row.length = len := by
  rw [h.row, List.length_append, digs_len, List.length_replicate]
  have := h.le
  omega

theorem NextI.back {c len k n m : Nat} {row : List UInt8} (hc : 1 ≤ c) (h : NextI c len k (n + 1) m row) (hd : m % c = c - 1) : NextI c len k n (m / c) (row.set n 97) := by
  have e : m + 1 = (m / c + 1) * c := by
    have := Nat.div_add_mod m c
    rw [Nat.add_mul, Nat.one_mul, Nat.mul_comm]
    omega
  have e1 : (m + 1) / c = m / c + 1 := by rw [e]; exact Nat.mul_div_cancel _ hc
  have e2 : (m + 1) % c = 0 := by rw [e]; exact Nat.mul_mod_left _ _
  have hle := h.le
  have hr : List.replicate (len - n) (97 : UInt8) = 97 :: List.replicate (len - (n + 1)) 97 := by rw [show len - n = (len - (n + 1)) + 1 from by omega]; rfl
  have hlt : m / c < (wordsN c n).length := by
    have h1 := h.lt
    rw [wordsN_len] at h1
    rw [Nat.div_lt_iff_lt_mul hc]; exact h1
  refine ⟨by omega, ?_, ?_, hlt, ?_⟩
  · rw [h.row, digs_last, List.append_assoc, hr]
    have := set_mid (digs c n (m / c)) (UInt8.ofNat (97 + m % c)) 97 (List.replicate (len - (n + 1)) 97)
    rw [digs_len] at this
    exact this
  · have h2 := h.nxt
    rw [digs_last, e1, e2, List.append_assoc] at h2
    rw [hr]
    exact h2
  · rw [← h.iff, wordsN_len, e]
    constructor
    · intro h1; exact Nat.mul_lt_mul_of_pos_right h1 hc
    · intro h1; exact Nat.lt_of_mul_lt_mul_right h1

theorem NextI.inc {c len k n m : Nat} {row : List UInt8} (hc : 1 ≤ c) (h : NextI c len k (n + 1) m row) (hd : m % c ≠ c - 1) : row.set n (UInt8.ofNat (97 + (m % c + 1))) = digs c len (k + 1) ∧ k + 1 < (wordsN c len).length := by
  have hm := Nat.mod_lt m hc
  have hdm := Nat.div_add_mod m c
  have e : m + 1 = m / c * c + (m % c + 1) := by rw [Nat.mul_comm]; omega
  have e1 : (m + 1) / c = m / c := by
    rw [e, Nat.add_comm, Nat.add_mul_div_right _ _ hc, Nat.div_eq_of_lt (show m % c + 1 < c by omega), Nat.zero_add]
  have e2 : (m + 1) % c = m % c + 1 := by
    rw [e, Nat.add_comm, Nat.add_mul_mod_self_right, Nat.mod_eq_of_lt (show m % c + 1 < c by omega)]
  have h2 := h.nxt
  rw [digs_last, e1, e2, List.append_assoc] at h2
  refine ⟨?_, ?_⟩
  · rw [h.row, digs_last, List.append_assoc, ← h2]
    have := set_mid (digs c n (m / c)) (UInt8.ofNat (97 + m % c)) (UInt8.ofNat (97 + (m % c + 1))) (List.replicate (len - (n + 1)) 97)
    rw [digs_len] at this
    exact this
  · rw [← h.iff, wordsN_len]
    have h1 := h.lt
    rw [wordsN_len] at h1
    have h3 : m / c < (wordsN c n).length := by rw [Nat.div_lt_iff_lt_mul hc]; exact h1
    have h4 : (m / c + 1) * c ≤ (wordsN c n).length * c := Nat.mul_le_mul_right c h3
    rw [Nat.add_mul, Nat.one_mul] at h4
    omega

theorem bytesV_set (l : List UInt8) (n : Nat) (b : UInt8) : (bytesV l).set n (Go.Value.int .u8 (b.toNat : Nat)) = bytesV (l.set n b) := by
  unfold bytesV
  rw [List.map_set]

end Go.Proofs.YtjochoghmpcgdaaDoor

/-
  A builder as a part of what a call holds of its own.
-/
namespace Go.Proofs.YtjochoghmpcgdaaDoor
open Go.RowKit

theorem rowF_frame {w w' : World} {e : TypeId} {v : Value} {n : Nat} {xs : List Value} (hf : ∀ b, b ∈ v.ownBlock.toList → w'.heap[b]? = w.heap[b]?) (h : w.ownsRowF 0 e 1 v n xs) : w'.ownsRowF 0 e 1 v n xs := by
  obtain ⟨h1, h2⟩ := h
  refine ⟨h1, ?_⟩
  rcases h2 with h2 | ⟨g, cap, cur, fz, rfl, hg, hh, r⟩
  · exact .inl h2
  · exact .inr ⟨g, cap, cur, fz, rfl, hg, (hf g (by simp [Value.ownBlock])).trans hh, r⟩

theorem rowF_base {w : World} {B B' : Nat} {e : TypeId} {v : Value} {n : Nat} {xs : List Value} (hf : ∀ b, b ∈ v.ownBlock.toList → B' ≤ b) (h : w.ownsRowF B e 1 v n xs) : w.ownsRowF B' e 1 v n xs := by
  obtain ⟨h1, h2⟩ := h
  refine ⟨h1, ?_⟩
  rcases h2 with h2 | ⟨g, cap, cur, fz, rfl, hg, hh, r⟩
  · exact .inl h2
  · exact .inr ⟨g, cap, cur, fz, rfl, hf g (by simp [Value.ownBlock]), hh, r⟩

theorem rowF_typ {w : World} {B : Nat} {e : TypeId} {v : Value} {n : Nat} {xs : List Value} (h : w.ownsRowF B e 1 v n xs) {k : Nat} (hk : k ∈ v.ownBlock.toList) : B ≤ k ∧ ∃ cs fz, w.heap[k]? = some (Obj.cells cs e fz) := by
  obtain ⟨h1, h2⟩ := h
  rcases h2 with ⟨rfl, -⟩ | ⟨g, cap, cur, fz, rfl, hg, hh, r⟩
  · simp [Value.ownBlock] at hk
  · simp [Value.ownBlock] at hk
    rw [hk]
    exact ⟨hg, _, _, hh⟩

/-- A builder in block b. -/
def oBld (b : Nat) (l : List UInt8) : Ob := ⟨fun w f => ∃ p v, (p = Value.pointer none ∨ p = .pointer (some ⟨b, 0, none⟩)) ∧ w.heap[b]? = some (Obj.cells #[p, v] 94 (0, 0)) ∧ w.ownsRowF 0 5 1 v (Lib.byteCells l).length (Lib.byteCells l) ∧ v.ownBlock ≠ some b ∧ f = b :: v.ownBlock.toList, fun {w w' fp} hf h => by
  obtain ⟨p, v, h1, h2, h3, h4, rfl⟩ := h
  exact ⟨p, v, h1, (hf b (by simp)).trans h2, rowF_frame (fun k hk => hf k (by simp only [List.mem_cons]; exact .inr hk)) h3, h4, rfl⟩⟩

theorem Star.bldOut {w0 w : World} {ps : List Ob} (S : Star w0 w ps) (n : Nat) {b : Nat} {l : List UInt8} (h : ps[n]? = some (oBld b l)) : BldK w0.heap.size b l w := by
  obtain ⟨-, fp, hh, -⟩ := S
  obtain ⟨h1, h2, h3⟩ := hh n _ h
  obtain ⟨p, v, e1, e2, e3, e4, e5⟩ := h1
  rw [e5] at h3
  have hB : w0.heap.size ≤ b := (h3 b (by simp)).1
  have hr := rowF_base (B' := w0.heap.size) (fun k hk => (h3 k (by simp only [List.mem_cons]; exact .inr hk)).1) e3
  rcases e1 with rfl | rfl
  · exact .inl ⟨hB, v, e2, hr, e4⟩
  · exact .inr ⟨hB, v, e2, hr, e4⟩

theorem Star.bldIn {w0 w : World} {ps : List Ob} {b : Nat} {l : List UInt8} (S : Star w0 w ps) (hf : ∀ P, P ∈ ps → P.Far) (h : BldK w0.heap.size b l w) : Star w0 w (oBld b l :: ps) := by
  obtain ⟨p, hp, hB, v, hb, hr, hne⟩ : ∃ p, (p = Value.pointer none ∨ p = .pointer (some ⟨b, 0, none⟩)) ∧ Lib.BuilderAtF 94 5 w0.heap.size b p (Lib.byteCells l) w := by
    rcases h with h | h
    · exact ⟨_, .inl rfl, h⟩
    · exact ⟨_, .inr rfl, h⟩
  obtain ⟨B, fp, hh, d⟩ := S
  have hlt : ∀ {k : Nat} {o : Obj}, w.heap[k]? = some o → k < w.heap.size := fun h => (Array.getElem?_eq_some_iff.1 h).1
  have hty : ∀ k, k ∈ b :: v.ownBlock.toList → w0.heap.size ≤ k ∧ k < w.heap.size ∧ ∃ cs ty fz, w.heap[k]? = some (Obj.cells cs ty fz) ∧ (ty = 94 ∨ ty = 5) := by
    intro k hk
    rcases List.mem_cons.1 hk with rfl | hk
    · exact ⟨hB, hlt hb, _, _, _, hb, .inl rfl⟩
    · obtain ⟨k1, cs, fz, k2⟩ := rowF_typ hr hk
      exact ⟨k1, hlt k2, _, _, _, k2, .inr rfl⟩
  have hdj : ∀ i, i < ps.length → Dj (b :: v.ownBlock.toList) (fp i) := by
    intro i hi k hk1 hk2
    obtain ⟨-, -, cs, ty, fz, e1, e2⟩ := hty k hk1
    obtain ⟨cs', ty', fz', f1, f2, f3⟩ := hf _ (List.getElem_mem hi) w _ (hh i _ (List.getElem?_eq_getElem hi)).1 k hk2
    rw [e1] at f1
    cases f1
    rcases e2 with e2 | e2
    · exact f2 e2
    · exact f3 e2
  refine ⟨B, fun i => match i with | 0 => b :: v.ownBlock.toList | i + 1 => fp i, fun i P hP => ?_, fun i j hij hi hj => ?_⟩
  · cases i with
    | zero =>
      obtain rfl : _ = P := by simpa using hP
      refine ⟨⟨p, v, hp, hb, rowF_base (fun k _ => Nat.zero_le _) hr, hne, rfl⟩, ?_, fun k hk => ⟨(hty k hk).1, (hty k hk).2.1⟩⟩
      cases ho : v.ownBlock with
      | none => simp
      | some g => rw [ho] at hne; simp only [Option.toList, List.nodup_cons, List.mem_singleton, List.not_mem_nil, not_false_eq_true, List.nodup_nil, and_true]; exact fun e => hne (by rw [e])
    | succ i => exact hh i P (by simpa using hP)
  · cases i with
    | zero =>
      cases j with
      | zero => exact absurd rfl hij
      | succ j => exact hdj j (by simpa using hj)
    | succ i =>
      cases j with
      | zero => exact (hdj i (by simpa using hi)).symm
      | succ j => exact d i j (by omega) (by simpa using hi) (by simpa using hj)

theorem Star.bldNew {w0 w : World} {ps : List Ob} (S : Star w0 w ps) : Star w0 (w.alloc (.cells #[.pointer none, .slice none 0 0] 94)) (oBld w.heap.size [] :: ps) :=
  S.push (P := oBld w.heap.size []) (f := [w.heap.size]) ((Below.refl _ _).alloc (Nat.le_refl _) _) ⟨_, _, .inl rfl, by have h := Blk.new w #[.pointer none, .slice none 0 0] 94; exact h, ⟨rfl, .inl ⟨rfl, rfl⟩⟩, by simp [Value.ownBlock], rfl⟩ (by simp) (fun b hb => by rw [List.mem_singleton.1 hb]; exact Nat.le_refl _) (fun b hb => by rw [List.mem_singleton.1 hb, World.size_alloc]; exact Nat.lt_succ_self _)

theorem Star.tl {w0 w : World} {P : Ob} {ps : List Ob} (S : Star w0 w (P :: ps)) : Star w0 w ps := by
  obtain ⟨B, fp, hh, d⟩ := S
  exact ⟨B, fun i => fp (i + 1), fun i Q hQ => hh (i + 1) Q (by simpa using hQ), fun i j hij hi hj => d (i + 1) (j + 1) (by omega) (by simpa using hi) (by simpa using hj)⟩

/-- A write into the builder. -/
theorem Star.write {w0 w : World} {ps : List Ob} {b : Nat} {l : List UInt8} (S : Star w0 w (oBld b l :: ps)) (hf : ∀ P, P ∈ ps → P.Far) (s : ByteArray) (hlen : l.length + s.size ≤ 1000000) :
    Calls Tryd.prog 52 #[.pointer (some ⟨b, 0, none⟩), .string s] w (fun e w' => e = .returned (.tuple #[.int .i64 s.size, .nilIface]) ∧ Star w0 w' (oBld b (l ++ s.data.toList) :: ps)) := by
  refine (writeK_any w0.heap.size b l s w (S.bldOut 0 rfl) hlen S.below.size).mono ?_
  rintro e w' ⟨rfl, h1, h2, h3⟩
  exact ⟨rfl, (S.tl.calm hf h2 h3).bldIn hf h1⟩

theorem Star.blen {w0 w : World} {ps : List Ob} {b : Nat} {l : List UInt8} (S : Star w0 w (oBld b l :: ps)) :
    Calls Tryd.prog 53 #[.pointer (some ⟨b, 0, none⟩)] w (fun e w' => e = .returned (.int .i64 l.length) ∧ w' = w) := lenK_any _ b l w (S.bldOut 0 rfl)

theorem Star.bstr {w0 w : World} {ps : List Ob} {b : Nat} {l : List UInt8} (S : Star w0 w (oBld b l :: ps)) :
    Calls Tryd.prog 54 #[.pointer (some ⟨b, 0, none⟩)] w (fun e w' => e = .returned (.string ⟨l.toArray⟩) ∧ Below w0.heap.size w0 w') := by
  refine (stringK_any w0.heap.size b l w (S.bldOut 0 rfl) S.below.size).mono ?_
  rintro e w' ⟨rfl, h2, -⟩
  exact ⟨rfl, S.below.trans h2⟩

end Go.Proofs.YtjochoghmpcgdaaDoor
