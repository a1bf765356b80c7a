/-
  Contracts of the laws' own szWriter and toWriter (written by a program of this claim's own, gen_writ.py).
-/
import Derived.Test.YtcifdkliiljmkaaGreatDoorPackA
import Derived.Test.YtcifdkliiljmkaaGreatDoorLStringSSK
import Derived.Test.YtcifdkliiljmkaaGreatDoorStarK
namespace Go.Proofs.YtcifdkliiljmkaaGreatDoor
open Go.RowKit

def okWriter (r : Writer) : Prop := okTurner r.turner ∧ r.out.length ≤ 1048576 ∧ ∀ x, x ∈ r.out → x.length ≤ 1048576
def totWriter (r : Writer) : Nat := totTurner r.turner + (r.out.length + sumF strSz r.out)

theorem rd_WriterF {w : World} {B : Nat} {cs : List Value} {r : Writer} (h : writE.rd w B cs r) :
    ∃ v2 v3, cs = [.int .i64 r.turner.letters, .int .i64 r.turner.start, v2, v3] ∧ (-9223372036854775808 ≤ r.turner.letters ∧ r.turner.letters ≤ 9223372036854775807) ∧ (-9223372036854775808 ≤ r.turner.start ∧ r.turner.start ≤ 9223372036854775807) ∧ movessE.rd w B [v2] r.turner.moves ∧ strssE.rd w B [v3] r.out := by
  obtain ⟨v2, v3, rfl, h2, h3⟩ := rd_Writer h
  obtain ⟨v2', he, b0, b1, k2⟩ := rd_Turner h2
  obtain rfl : v2 = v2' := by simpa using he
  exact ⟨v2, v3, rfl, b0, b1, k2, h3⟩

theorem sumF_mem {α : Type} (f : α → Nat) (l : List α) (x : α) (h : x ∈ l) : f x ≤ sumF f l := by
  induction l with
  | nil => cases h
  | cons a l ih =>
    show f x ≤ f a + sumF f l
    rcases List.mem_cons.1 h with e | e
    · subst e; omega
    · have := ih e; omega

theorem ok_of_totWriter {r : Writer} (h : ¬ 1048576 < totWriter r) : okWriter r := by
  unfold totWriter at h
  refine ⟨ok_of_totTurner (by omega), by omega, fun x hx => ?_⟩
  have := sumF_mem strSz r.out x hx
  have h2 : x.length ≤ strSz x := by unfold strSz; omega
  omega

set_option maxHeartbeats 2000000 in
theorem toWriter_any (cs : List Value) (r : Writer) (B : Nat) (w : World) (hB0 : B ≤ w.heap.size) (h : writE.rd w B cs r) (hok : okWriter r) :
    Calls Tryz.prog 8 #[.agg cs.toArray] w (MakesS writE id r w) := by
  obtain ⟨v2, v3, rfl, h2, h3⟩ := rd_Writer h
  obtain ⟨v2', he, -, -, k2⟩ := rd_Turner h2
  obtain rfl : v2 = v2' := by simpa using he
  obtain ⟨a2, n2, c2, rfl⟩ := rd_slice k2
  obtain ⟨a3, n3, c3, rfl⟩ := rd_slice h3
  have H2 := Lib.hid h2
  have H3 := Lib.hid h3
  have HO := Lib.hid hok
  clear h h2 h3 k2 hok he
  have S := (((Star.nil w).alloc (cs := #[.int .i64 r.turner.letters, .int .i64 r.turner.start, .slice a2 n2 c2, .slice a3 n3 c3]) (ty := 27)).alloc (cs := #[.int .i64 0, .int .i64 0, .slice none 0 0, .slice none 0 0]) (ty := 40)).alloc (cs := #[.int .i64 0, .int .i64 0, .slice none 0 0, .slice none 0 0]) (ty := 40)
  rw [World.size_alloc, World.size_alloc] at S
  go_enter Tryz.func8, Tryz.ntmps8
  go_wp2_with fail
  generalize hW : ((w.alloc _).alloc _).alloc _ = w0 at S ⊢
  clear hW
  replace S : Star w w0 [oB (w.heap.size + 1 + 1) [.int .i64 0, .int .i64 0, .slice none 0 0, .slice none 0 0] 40, oB (w.heap.size + 1) [.int .i64 0, .int .i64 0, .slice none 0 0, .slice none 0 0] 40, oB w.heap.size [.int .i64 r.turner.letters, .int .i64 r.turner.start, .slice a2 n2 c2, .slice a3 n3 c3] 27] := S
  refine (toTurner_any _ r.turner B _ (Nat.le_trans hB0 S.below.size) (turnE.rd_of (S.below.mono hB0) H2.out) HO.out.1).mono ?_
  rintro e w1 ⟨x1, f1, rfl, o1, d1, lo1, b1⟩
  have S1 := S.made o1 d1 lo1 b1
  have o' := turnE.rd_ow o1
  obtain ⟨u2, rfl, -, -, k2⟩ := rd_Turner o'
  obtain ⟨s2, m2, p2, rfl⟩ := rd_slice k2
  clear o' k2 o1 d1 lo1 b1 S
  replace S1 := S1.sel [1, 2, 3, 0]
  have L0 := S1.blk 0 rfl
  have l0 := L0.cell 0 rfl
  have l1 := L0.cell 1 rfl
  have l2 := L0.cell 2 rfl
  have l3 := L0.cell 3 rfl
  have lf := L0.free
  have a3' := (S1.blk 2 rfl).cell 3 rfl
  have la := (S1.blk 2 rfl).lt
  go_wp2_with fail
  generalize hW : ((w1.setCell _ _).setCell _ _).setCell _ _ = w2
  have S2 : Star w w2 [oB (w.heap.size + 1 + 1) [.int .i64 r.turner.letters, .int .i64 r.turner.start, .slice s2 m2 p2, .slice none 0 0] 40, oB (w.heap.size + 1) [.int .i64 0, .int .i64 0, .slice none 0 0, .slice none 0 0] 40, oB w.heap.size [.int .i64 r.turner.letters, .int .i64 r.turner.start, .slice a2 n2 c2, .slice a3 n3 c3] 27, oE turnE [.int .i64 r.turner.letters, .int .i64 r.turner.start, .slice s2 m2 p2] r.turner] := by
    rw [← hW]
    exact ((S1.set 0 _).set 1 _).set 2 _
  clear hW L0 l0 l1 l2 l3 lf a3' la S1
  refine (toStringSS_any _ r.out B _ (Nat.le_trans hB0 S2.below.size) (strssE.rd_of (S2.below.mono hB0) H3.out) HO.out.2.1 HO.out.2.2).mono ?_
  rintro e w3 ⟨x2, f2, rfl, o2, d2, lo2, b2⟩
  obtain ⟨s3, m3, p3, rfl⟩ := ow_slice o2
  have S3 := (S2.made o2 d2 lo2 b2).sel [1, 2, 4, 0]
  clear o2 d2 lo2 b2 S2
  have L0 := S3.blk 0 rfl
  have l0 := L0.cell 0 rfl
  have l1 := L0.cell 1 rfl
  have l2 := L0.cell 2 rfl
  have l3 := L0.cell 3 rfl
  have lf := L0.free
  have R0 := S3.blk 1 rfl
  have r0 := R0.cell 0 rfl
  have r1 := R0.cell 1 rfl
  have r2 := R0.cell 2 rfl
  have r3 := R0.cell 3 rfl
  have rf := R0.free
  go_wp2
  generalize hW : ((((w3.setCell _ _).setCell _ _).setCell _ _).setCell _ _).setCell _ _ = w4
  have S4 : Star w w4 [oB (w.heap.size + 1) [.int .i64 r.turner.letters, .int .i64 r.turner.start, .slice s2 m2 p2, .slice s3 m3 p3] 40, oE turnE [.int .i64 r.turner.letters, .int .i64 r.turner.start, .slice s2 m2 p2] r.turner, oE strssE [.slice s3 m3 p3] r.out] := by
    rw [← hW]
    exact ((((((S3.set 3 _).sel [1, 2, 3]).set 0 _).set 1 _).set 2 _).set 3 _)
  have A3 := S4.blk 0 rfl
  have q0 := A3.cell 0 rfl
  have q1 := A3.cell 1 rfl
  have q2 := A3.cell 2 rfl
  have q3 := A3.cell 3 rfl
  have S5 := (S4.sel [1, 2]).pair.via (F := fun w : Writer => (w.turner, w.out)) r rfl
  obtain ⟨f9, k1, k2, k3⟩ := Star.out (E := writE) S5
  exact bodyPost_ret (v := .agg #[.int .i64 r.turner.letters, .int .i64 r.turner.start, .slice s2 m2 p2, .slice s3 m3 p3]) (by simp [results, Tryz.results8, go_sem, q0, q1, q2, q3]) rfl ⟨_, f9, rfl, k1, k2, k3, S5.below⟩

set_option maxHeartbeats 1000000 in
theorem szWriter_any (cs : List Value) (r : Writer) (B : Nat) (w : World) (left : Int) (hB0 : B ≤ w.heap.size) (h : writE.rd w B cs r) (h0 : 0 ≤ left) (h1 : left ≤ 1048576) :
    Calls Tryz.prog 5 #[.agg cs.toArray, .int .i64 left] w (Gives (.int .i64 (lim (totWriter r) left)) w) := by
  obtain ⟨v2, v3, rfl, h2, h3⟩ := rd_Writer h
  obtain ⟨v2', he, -, -, k2⟩ := rd_Turner h2
  obtain rfl : v2 = v2' := by simpa using he
  obtain ⟨a2, n2, c2, rfl⟩ := rd_slice k2
  obtain ⟨a3, n3, c3, rfl⟩ := rd_slice h3
  have H2 := Lib.hid h2
  have H3 := Lib.hid h3
  have HT : Hid (totWriter r = totTurner r.turner + (r.out.length + sumF strSz r.out)) := Lib.hid rfl
  clear h h2 h3 k2 he
  have S := (Star.nil w).alloc (cs := #[.int .i64 r.turner.letters, .int .i64 r.turner.start, .slice a2 n2 c2, .slice a3 n3 c3]) (ty := 27)
  go_enter Tryz.func5, Tryz.ntmps5
  go_wp2_with fail
  generalize hW : w.alloc _ = w0 at S ⊢
  clear hW
  replace S : Star w w0 [oB w.heap.size [.int .i64 r.turner.letters, .int .i64 r.turner.start, .slice a2 n2 c2, .slice a3 n3 c3] 27] := S
  refine (szTurner_any _ r.turner B _ left (Nat.le_trans hB0 S.below.size) (turnE.rd_of (S.below.mono hB0) H2.out) h0 h1).mono ?_
  rintro e w1 ⟨rfl, b⟩
  replace S := S.step b
  clear b
  obtain ⟨t1, ht1⟩ : ∃ t, t = totTurner r.turner := ⟨_, rfl⟩
  rw [← ht1] at HT ⊢
  obtain ⟨t2, ht2⟩ : ∃ t, t = r.out.length + sumF strSz r.out := ⟨_, rfl⟩
  rw [← ht2] at HT
  have HT2 := Lib.hid ht2
  clear ht1 ht2
  by_cases hx : left < t1
  · rw [lim_of_lt hx]
    have hr := Lib.hid (lim_of_lt (t := totWriter r) (left := left) (by have := HT.out; omega))
    go_wp2
    go_ret
    exact ⟨by rw [hr.out]; rfl, S.below⟩
  rw [lim_of_ge hx]
  obtain ⟨q, hq⟩ : ∃ q : Int, q = left - (t1 : Int) := ⟨_, rfl⟩
  rw [← hq]
  have hn : ¬ q < 0 := by omega
  have g1 : 0 ≤ q := by omega
  have g2 : q ≤ 1048576 := by omega
  have HQ := Lib.hid hq; clear hq
  have a3' := (S.blk 0 rfl).cell 3 rfl
  go_wp2_with fail
  refine (szStringSS_any _ r.out B _ q (Nat.le_trans hB0 S.below.size) (strssE.rd_of (S.below.mono hB0) H3.out) g1 g2).mono ?_
  rintro e w2 ⟨rfl, b⟩
  replace S := S.step b
  rw [← HT2.out]
  clear b a3'
  by_cases hy : q < t2
  · rw [lim_of_lt hy]
    have hr := Lib.hid (lim_of_lt (t := totWriter r) (left := left) (by have := HT.out; have := HQ.out; omega))
    go_wp2
    go_ret
    exact ⟨by rw [hr.out]; rfl, S.below⟩
  rw [lim_of_ge hy]
  have hr := Lib.hid (lim_of_ge (t := totWriter r) (left := left) (by have := HT.out; have := HQ.out; omega))
  have hh : ¬ q - (t2 : Int) < 0 := by omega
  have he := Lib.hid (show q - (t2 : Int) = left - (totWriter r : Int) by have := HT.out; have := HQ.out; omega)
  go_wp2
  go_ret
  exact ⟨by rw [hr.out, ← he.out]; rfl, S.below⟩

end Go.Proofs.YtcifdkliiljmkaaGreatDoor
