/-
  ValidWriter of the reference: what it answers.
-/
import Derived.Test.YtodoghidckelcaaGreatDoorWritOkK
import Derived.Test.YtodoghidckelcaaGreatDoorSpecTurnK
import Derived.Test.YtodoghidckelcaaGreatDoorPackA
namespace Go.Proofs.YtodoghidckelcaaGreatDoor
open Go.RowKit

theorem l02Ok_is (b : Bool) (v2 : Value) (p : Turner) (B g : Nat) (w : World) (hA0 : Hd w g [.int .i64 p.letters, .int .i64 p.start, v2]) (hh2 : movessE.rd w B [v2] p.moves) (hb : validTurn p = b) :
    Calls Tryz.prog 26 #[.pointer (some ⟨g, 0, none⟩)] w (Gives (.bool b) w) := hb ▸ l02Ok_any v2 p B g w hA0 hh2

set_option maxHeartbeats 2000000 in
theorem l07Ok_any (v2 v3 : Value) (r : Writer) (B g : Nat) (w : World) (hB0 : B ≤ w.heap.size) (hA0 : Blk w g [.int .i64 r.turner.letters, .int .i64 r.turner.start, v2, v3] 27)
    (k2 : movessE.rd w B [v2] r.turner.moves) (h3 : strssE.rd w B [v3] r.out) :
    Calls Tryz.prog 11 #[.pointer (some ⟨g, 0, none⟩)] w (Gives (.bool (writerOk r)) w) := by
  obtain ⟨a, cap, rfl, a1, a2, -, a4⟩ := rd_slice1 rfl k2
  obtain ⟨b, bcap, rfl, b1, b2, -, b4⟩ := rd_slice1 rfl h3
  have H2 := Lib.hid k2
  clear k2 h3
  have A4 := Lib.hid a4; clear a4
  have B4 := Lib.hid b4; clear b4
  have hov := cell_over w
  have hg := hA0.lt
  cases hv : validTurn r.turner
  · have HV := Lib.hid hv; clear hv
    have hno : writerOk r = false := by unfold writerOk; rw [HV.out]; rfl
    rw [hno]
    have HD := Lib.hid (Hd.left (c1 := [.int .i64 r.turner.letters, .int .i64 r.turner.start, .slice a r.turner.moves.length cap]) (c2 := [.slice b r.out.length bcap]) hA0.hd)
    clear hA0
    go_enter Tryz.func11, Tryz.ntmps11
    go_wp2
    refine wp_region_over (by kernel_rfl) (by kernel_rfl) ?_
    repeat (go_big_quiet_step ((go_at_call 26; exact calls_over (l02Ok_is false _ r.turner B g _ (HD.out.of (below_over w _) hg) (movessE.rd_of ((below_over w _).mono hB0) H2.out) HV.out))))
    refine wpQuiet_nil ?_
    intro w1 hw1
    go_wp2
    go_ret
    exact ⟨rfl, hw1⟩
  have HV := Lib.hid hv; clear hv
  obtain ⟨n, hn⟩ : ∃ n, n = r.turner.moves.length := ⟨_, rfl⟩
  obtain ⟨m, hm⟩ : ∃ n, n = r.out.length := ⟨_, rfl⟩
  rw [← hn] at A4 H2 a1 hA0
  rw [← hm] at B4 b1 hA0
  have HN := Lib.hid hn; clear hn
  have HM := Lib.hid hm; clear hm
  have HR : Hid (writerOk r = (decide (m = n) && (List.range n).all fun s => orowOk (r.out[s]?.getD default) (r.turner.moves[s]?.getD default).length)) := Lib.hid (by unfold writerOk; rw [HV.out, HN.out, HM.out]; rfl)
  obtain ⟨res, hres⟩ : ∃ x, x = writerOk r := ⟨_, rfl⟩
  rw [← hres]
  have HRES := Lib.hid (hres.trans HR.out); clear hres HR
  have HD := Lib.hid (Hd.left (c1 := [.int .i64 r.turner.letters, .int .i64 r.turner.start, .slice a n cap]) (c2 := [.slice b m bcap]) hA0.hd)
  have c2 := hA0.cell 2 rfl
  have c3 := hA0.cell 3 rfl
  by_cases hmn : m = n
  case neg =>
    have hno : res = false := by rw [HRES.out, decide_eq_false hmn]; rfl
    have hb1 : ((m : Int) != (n : Int)) = true := by simp; omega
    rw [hno]
    clear hA0 hmn
    go_enter Tryz.func11, Tryz.ntmps11
    go_wp2
    refine wp_region_over (by kernel_rfl) (by kernel_rfl) ?_
    repeat (go_big_quiet_step ((go_at_call 26; exact calls_over (l02Ok_is true _ r.turner B g _ (HD.out.of (below_over w _) hg) (movessE.rd_of ((below_over w _).mono hB0) H2.out) HV.out))))
    refine wpQuiet_nil ?_
    intro w1 hw1
    go_wp2
    go_ret
    exact ⟨rfl, hw1⟩
  subst hmn
  have hres : Hid (res = (List.range m).all fun s => orowOk (r.out[s]?.getD default) (r.turner.moves[s]?.getD default).length) := Lib.hid (by rw [HRES.out, decide_eq_true rfl, Bool.true_and])
  clear HRES
  have hb1 : ((m : Int) != (m : Int)) = false := by simp
  have HA0 := Lib.hid hA0; clear hA0
  go_enter Tryz.func11, Tryz.ntmps11
  go_wp2
  refine wp_region_over (by kernel_rfl) (by kernel_rfl) ?_
  repeat (go_big_quiet_step ((go_at_call 26; exact calls_over (l02Ok_is true _ r.turner B g _ (HD.out.of (below_over w _) hg) (movessE.rd_of ((below_over w _).mono hB0) H2.out) HV.out))))
  refine wpQuiet_nil ?_
  intro w1 hw1
  go_wp2
  have hA := HA0.out.of hw1 hg
  clear hov c2 c3 HD
  go_loopw [3] (fun i wr => ∃ k : Nat, k ≤ m ∧ i = .int .i64 k ∧ Below w.heap.size w wr ∧ Blk wr g [.int .i64 r.turner.letters, .int .i64 r.turner.start, .slice a m cap, .slice b m bcap] 27 ∧ Hid (∀ i, i < k → orowOk (r.out[i]?.getD default) (r.turner.moves[i]?.getD default).length = true)) (fun i _ => m - (intOf i).toNat)
  case atStart => exact ⟨0, by omega, rfl, hw1, hA, Lib.hid (fun i hi => absurd hi (by omega))⟩
  case round =>
    clear hA hw1
    obtain ⟨k, hk, rfl, hB, hA, HE⟩ := hrel
    have c2 := hA.cell 2 rfl
    have c3 := hA.cell 3 rfl
    by_cases hlt : k < m
    case neg =>
      obtain rfl : k = m := by omega
      have hyes : res = true := by rw [hres.out]; exact range_all (fun i hi => HE.out i hi)
      go_wp2
      go_ret
      exact ⟨by rw [hyes]; rfl, hB⟩
    obtain ⟨p, o, vk, rfl, -, hc, hr⟩ := A4.out k hlt
    obtain ⟨p2, o2, vk2, rfl, -, hc2, hr2⟩ := B4.out k hlt
    have l1 := World.block_lt_of_cell? w _ hc
    have l2 := World.block_lt_of_cell? w _ hc2
    have g1 := (hB.cell l1).trans hc
    have g2 := (hB.cell l2).trans hc2
    obtain ⟨sa, sc, rfl, s1, s2, -, -⟩ := rd_movesE hr
    obtain ⟨ta, tc, rfl, t1, t2, -, t4⟩ := rd_strs hr2
    have HC2 := Lib.hid hc2
    clear hc hc2 hr hr2
    obtain ⟨x, hx⟩ : ∃ x, x = (r.turner.moves[k]?.getD default).length := ⟨_, rfl⟩
    obtain ⟨row, hrow⟩ : ∃ x, x = r.out[k]?.getD default := ⟨_, rfl⟩
    rw [← hx] at g1 s1
    rw [← hrow] at g2 t1 t4 HC2
    have HX := Lib.hid hx; clear hx
    have HROW := Lib.hid hrow; clear hrow
    obtain ⟨y, hy⟩ : ∃ x, x = row.length := ⟨_, rfl⟩
    rw [← hy] at g2 t1 t4 HC2
    have HY := Lib.hid hy; clear hy
    have T4 := Lib.hid t4; clear t4
    have HA' := Lib.hid hA; have la := hA.lt; clear hA
    have HBr := Lib.hid hB; clear hB
    by_cases hlen : y = x
    case neg =>
      have hb2 : ((y : Int) != (x : Int)) = true := by simp; omega
      have hno : Hid (res = false) := Lib.hid (by rw [hres.out]; exact range_not hlt (by unfold orowOk; rw [← HROW.out, ← HX.out, decide_eq_false (by rw [← HY.out]; exact hlen)]; rfl))
      clear hlen
      go_wp2
      go_quiet (fail)
      go_wp2
      go_ret
      exact ⟨by rw [hno.out]; rfl, below_drewN HBr.out _⟩
    subst hlen
    have hb2 : ((y : Int) != (y : Int)) = false := by simp
    go_wp2
    go_quiet (fail)
    rename_i nq
    go_wp2
    have hA := HA'.out.of (below_drewN (Below.refl _ wr) nq) la
    have hB := below_drewN HBr.out nq
    clear g1 g2 c2 c3
    go_loopw [4] (fun i wr => ∃ c : Nat, c ≤ y ∧ i = .int .i64 c ∧ Below w.heap.size w wr ∧ Blk wr g [.int .i64 r.turner.letters, .int .i64 r.turner.start, .slice (some ⟨p, o, none⟩) m cap, .slice (some ⟨p2, o2, none⟩) m bcap] 27 ∧ Hid (∀ i, i < c → outOk (row[i]?.getD ByteArray.empty) = true)) (fun i _ => y - (intOf i).toNat)
    case atStart => exact ⟨0, by omega, rfl, hB, hA, Lib.hid (fun i hi => absurd hi (by omega))⟩
    case round =>
      clear hA hB
      obtain ⟨c, hc, rfl, hB, hA, HC⟩ := hrel
      have g2 := (hB.cell l2).trans HC2.out
      have c3 := hA.cell 3 rfl
      by_cases hcm : c < y
      case neg =>
        obtain rfl : c = y := by omega
        have hyes : Hid (orowOk (r.out[k]?.getD default) (r.turner.moves[k]?.getD default).length = true) := Lib.hid (by unfold orowOk; rw [← HROW.out, ← HX.out, decide_eq_true HY.out.symm, Bool.true_and]; exact all_of_idx ByteArray.empty _ _ (fun i hi => HC.out i (by rw [HY.out]; exact hi)))
        go_wp2
        go_roundw
        case rel => exact ⟨k + 1, by omega, by go_num, hB, hA, Lib.hid (fun i hi => by by_cases h : i = k; (subst h; exact hyes.out); exact HE.out i (by omega))⟩
        case measure => simp [intOf]; omega
      obtain ⟨s, t, rfl, -, hp, hps⟩ := T4.out c hcm
      have p0 := (hB.cell (World.block_lt_of_cell? w _ hp)).trans hp
      clear hp
      obtain ⟨tx, htx⟩ : ∃ x, x = row[c]?.getD ByteArray.empty := ⟨_, rfl⟩
      rw [← htx] at p0 hps
      have HTX := Lib.hid htx; clear htx
      have HA5 := Lib.hid hA; clear hA
      have HB5 := Lib.hid hB; clear hB
      cases hok : outOk tx
      · have HOK := Lib.hid hok; clear hok
        have hno : Hid (res = false) := Lib.hid (by rw [hres.out]; exact range_not hlt (by unfold orowOk; rw [← HROW.out]; rw [all_not_idx ByteArray.empty outOk row c (by rw [← HY.out]; exact hcm) (by rw [← HTX.out]; exact HOK.out), Bool.and_false]))
        go_wp2_with fail
        refine (l07Text_is false _ _ HOK.out hps).mono ?_
        rintro e w6 ⟨rfl, rfl⟩
        go_wp2
        go_ret
        exact ⟨by rw [hno.out]; rfl, HB5.out⟩
      · have HOK := Lib.hid hok; clear hok
        go_wp2_with fail
        refine (l07Text_is true _ _ HOK.out hps).mono ?_
        rintro e w6 ⟨rfl, rfl⟩
        go_wp2
        go_roundw
        case rel => exact ⟨c + 1, by omega, by go_num, HB5.out, HA5.out, Lib.hid (fun i hi => by by_cases h : i = c; (subst h; rw [← HTX.out]; exact HOK.out); exact HC.out i (by omega))⟩
        case measure => simp [intOf]; omega

end Go.Proofs.YtodoghidckelcaaGreatDoor
