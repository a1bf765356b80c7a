/-
  The reference's search for a word that tells two states apart: l05Unlike.
-/
import Derived.Test.YtmbecaiieibcjaaUnlOk
import Derived.Test.YtmbecaiieibcjaaOver
namespace Go.Proofs.Ytmbecaiieibcjaa
open Go.RowKit

set_option maxHeartbeats 4000000 in
set_option maxRecDepth 100000 in
theorem l05Unlike_any (r : Reader) (s t g B : Nat) (R : Option (List UInt8)) (w : World) (hB0 : B ≤ w.heap.size) {v3 v4 : Value} (hA : Blk w g [.int .i64 r.letters, .int .i64 r.start, v3, v4] 44) (h3 : boolsE.rd w B [v3] r.accept) (h4 : intssE.rd w B [v4] r.next)
    (hv : validRead r = true) (hs : s < r.accept.length) (ht : t < r.accept.length) (hR : unlU false r s t = R) :
    Calls Try.prog 29 #[.pointer (some ⟨g, 0, none⟩), .int .i64 (s : Int), .int .i64 (t : Int)] w (Gives (unlV R) w) := by
  have K := rok_of hv
  obtain ⟨ab, ao, ac, rfl, a1, a2, a4⟩ := rd_s1p rfl h3 K.n1
  obtain ⟨nb, no, nc, rfl, n1, n2, n4⟩ := rd_s1p rfl h4 (by rw [K.nn]; exact K.n1)
  obtain ⟨n, hn⟩ : ∃ n, n = r.accept.length := ⟨_, rfl⟩
  obtain ⟨c, hc⟩ : ∃ c : Nat, r.letters = c := ⟨r.letters.toNat, by have := K.l1; omega⟩
  have hn300 : n ≤ 300 := by rw [hn]; exact K.n300
  have hn1 : 1 ≤ n := by rw [hn]; exact K.n1
  have hc3 : c ≤ 3 := by have := K.l3; omega
  have hcn : r.letters.toNat = c := by omega
  have hnn : n * n ≤ 90000 := Nat.mul_le_mul hn300 hn300
  rw [K.nn] at n1 n4 hA
  rw [← hn] at a1 a4 n1 n4 hs ht hA
  rw [hc] at hA
  have HA := Lib.hid hA; have HK := Lib.hid K; have HN := Lib.hid hn; have HC := Lib.hid hcn; have A4 := Lib.hid a4; have N4 := Lib.hid n4
  have hI : InvU n [((s, t), [])] := ⟨fun x hx => by rw [List.mem_singleton.1 hx]; exact ⟨hs, ht⟩, by simp⟩
  have hG : goU false r 90001 0 [((s, t), [])] = R := hR
  have hW : WBd 0 [((s, t), [])] := fun x hx => by rw [List.mem_singleton.1 hx]; exact Nat.le_refl _
  have HI := Lib.hid hI; have HG := Lib.hid hG; have HW := Lib.hid hW
  have bs : bd64 (s : Int) := ⟨by omega, by omega⟩
  have bt : bd64 (t : Int) := ⟨by omega, by omega⟩
  clear K hc hcn hn h3 h4 hv hA a4 n4 hR hI hG hW
  have S := (Star.nil w).alloc (cs := #[.int .i64 (s : Int), .int .i64 (t : Int), .string ⟨#[]⟩]) (ty := 84)
  go_enter Try.func29, Try.ntmps29
  go_wp2
  generalize hW : w.alloc _ = w0 at S ⊢
  clear hW
  have S1 := S.lits (E := stpE) [toS ((s, t), [])] (fun x => [.int .i64 x.s, .int .i64 x.t, .string x.word]) 1 rfl rfl (fun x hx => by rw [List.mem_singleton.1 hx]; exact ow_stp bs bt (Nat.zero_le _) _) (by simp [maxLen])
  clear S
  go_loopw [8, 9] (fun vl q wr => ∃ (i : Nat) (v : Value) (L : List PW), i ≤ L.length ∧ 0 < L.length ∧ vl = v ∧ q = .int .i64 i ∧ Star w wr [oE (sliceE stpE 84) [v] (L.map toS)] ∧ Hid (goU false r (90001 - i) i L = R) ∧ Hid (InvU n L) ∧ Hid (WBd i L)) (fun _ q _ => 90001 - (intOf q).toNat)
  case atStart => exact ⟨0, _, [((s, t), [])], Nat.zero_le _, Nat.zero_lt_one, rfl, rfl, S1, HG, HI, HW⟩
  case round =>
    clear S1 HG HI HW
    obtain ⟨i, v, L, hi, hpos, rfl, rfl, S, HG, HI, HW⟩ := hrel
    have hlen := HI.out.len
    obtain ⟨lb, lo, lc, rfl, q1, q2, q4⟩ := S.wide 0 rfl (by rw [List.length_map]; exact hpos)
    rw [List.length_map] at q1 S ⊢
    obtain ⟨m, hm⟩ : ∃ m, m = L.length := ⟨_, rfl⟩
    rw [← hm] at hi hlen q1 S hpos ⊢
    have HM := Lib.hid hm
    clear hm
    by_cases hlt : i < m
    case neg =>
      obtain rfl : i = m := by omega
      obtain rfl : R = none := by
        have h := HG.out
        rw [show 90001 - i = (90000 - i) + 1 from by omega, goU, List.getElem?_eq_none_iff.2 (by rw [← HM.out]; exact Nat.le_refl _)] at h
        exact h.symm
      go_wp2
      go_ret2
      exact ⟨rfl, S.below⟩
    have hil : i < L.length := by rw [← HM.out]; exact hlt
    obtain ⟨⟨⟨p, q⟩, wd⟩, he⟩ : ∃ e, e = L[i] := ⟨_, rfl⟩
    have hge : L[i]? = some ((p, q), wd) := by rw [he]; exact List.getElem?_eq_getElem hil
    have hmem : (((p, q), wd) : PW) ∈ L := List.mem_of_getElem? hge
    have hG2 : (if accU r p != accU r q then some wd else goU false r (90001 - (i + 1)) (i + 1) (extU false r ((p, q), wd) L c)) = R := by
      have h := HG.out
      rw [show 90001 - i = (90001 - (i + 1)) + 1 from by omega, goU, hge, HC.out] at h
      exact h
    obtain ⟨hp, hq⟩ := HI.out.lt _ hmem
    have hwl : wd.length ≤ i := HW.out _ hmem
    have hIk : ∀ k, k ≤ c → InvU n (extU false r ((p, q), wd) L k) := fun k hk => HI.out.extU k fun l hl => by
      have h1 := (HK.out.next (a := p) (l := l) (by rw [← HN.out]; exact hp) (by rw [HC.out]; omega)).2
      have h2 := (HK.out.next (a := q) (l := l) (by rw [← HN.out]; exact hq) (by rw [HC.out]; omega)).2
      rw [← HN.out] at h1 h2
      exact ⟨h1, h2⟩
    have hWk : ∀ k, WBd (i + 1) (extU false r ((p, q), wd) L k) := (HW.out.mono (Nat.le_succ _)).extU (by show wd.length < i + 1; omega)
    obtain ⟨xs, x1, x2⟩ := q4 i _ (by rw [List.getElem?_map, hge]; rfl)
    obtain rfl := rd_stp x1
    obtain ⟨W, hWd⟩ : ∃ W, W = (⟨wd.toArray⟩ : ByteArray) := ⟨_, rfl⟩
    have hWs : W.size ≤ 90000 := by rw [hWd]; show wd.toArray.size ≤ _; rw [List.size_toArray]; omega
    have hsz : stpE.size = 3 := rfl
    rw [hsz] at x2
    have y0 : wr.cell? ⟨lb, lo + i * 3, none⟩ = some (.int .i64 (p : Int)) := by have := x2 0 _ rfl; simpa [Nat.add_assoc, toS] using this
    have y1 : wr.cell? ⟨lb, lo + i * 3 + 1, none⟩ = some (.int .i64 (q : Int)) := by have := x2 1 _ rfl; simpa [Nat.add_assoc, toS] using this
    have y2 : wr.cell? ⟨lb, lo + i * 3 + 2, none⟩ = some (.string W) := by
      have h := x2 2 _ rfl
      have e : (toS ((p, q), wd)).word = W := by rw [hWd]; rfl
      rw [e] at h
      simpa [Nat.add_assoc] using h
    have HWD := Lib.hid hWd; have HG2 := Lib.hid hG2; have HIK := Lib.hid hIk; have HWK := Lib.hid hWk
    clear x1 x2 q4 hge hmem hG2 hIk hWk he hil hWd HG HW
    have i1 : (0 : Int) ≤ (i : Int) := by omega
    have i2 : (i : Int) < (m : Int) := by omega
    replace S := S.alloc (cs := #[.int .i64 (p : Int), .int .i64 (q : Int), .string W]) (ty := 84)
    go_wp2_with fail
    generalize hW : wr.alloc _ = w1 at S ⊢
    obtain ⟨g10, hg10⟩ : ∃ g, g = wr.heap.size := ⟨_, rfl⟩
    rw [← hg10] at S ⊢
    clear hW hg10 y0 y1 y2 i1 i2
    have BW := S.below
    have PR := HA.out.of BW HA.out.lt
    have d2 := PR.cell 2 rfl
    have g0 := PR.lt
    obtain ⟨vk, ac1, ar1⟩ := A4.out p hp
    obtain rfl : vk = .bool (accU r p) := by have h : [vk] = [.bool (accU r p)] := ar1; simpa using h
    obtain ⟨vk, ac2, ar2⟩ := A4.out q hq
    obtain rfl : vk = .bool (accU r q) := by have h : [vk] = [.bool (accU r q)] := ar2; simpa using h
    obtain ⟨b1, hb1⟩ : ∃ b, b = accU r p := ⟨_, rfl⟩
    obtain ⟨b2, hb2⟩ : ∃ b, b = accU r q := ⟨_, rfl⟩
    rw [← hb1] at ac1
    rw [← hb2] at ac2
    have hG3 := HG2.out
    rw [← hb1, ← hb2] at hG3
    have HG3 := Lib.hid hG3
    have z0 := (BW.cell (World.block_lt_of_cell? w _ ac1)).trans ac1
    have z1 := (BW.cell (World.block_lt_of_cell? w _ ac2)).trans ac2
    have e0 := (S.blk 0 rfl).cell 0 rfl
    have e1 := (S.blk 0 rfl).cell 1 rfl
    have g1 := (S.blk 0 rfl).lt
    have g2 : ab < w1.heap.size := World.block_lt_of_cell? w1 _ z0
    have hov := cell_over w1
    have j1 : (0 : Int) ≤ (p : Int) := by omega
    have j2 : (p : Int) < (n : Int) := by omega
    have j3 : (0 : Int) ≤ (q : Int) := by omega
    have j4 : (q : Int) < (n : Int) := by omega
    clear ac1 ac2 ar1 ar2 hb1 hb2 hG3 HG2 PR BW
    refine wp_region_over (by kernel_rfl) (by kernel_rfl) ?_
    repeat (go_big_quiet_step (fail))
    refine wpQuiet_nil ?_
    intro w2 wb2
    replace S := S.step wb2
    clear z0 z1 e0 e1 g1 g2 hov wb2 d2 g0
    generalize hbt : (!(b1 == b2)) = bt
    have hacc : (b1 != b2) = bt := hbt
    clear hbt
    cases bt
    case true =>
      obtain rfl : R = some wd := by rw [← HG3.out, hacc]; rfl
      have e2 := (S.blk 0 rfl).cell 2 rfl
      go_wp2
      go_ret2
      exact ⟨by rw [HWD.out]; rfl, S.below⟩
    have hG4 : goU false r (90001 - (i + 1)) (i + 1) (extU false r ((p, q), wd) L c) = R := by rw [← HG3.out, hacc]; rfl
    have HG4 := Lib.hid hG4
    have S0 : Star w w2 [oE (sliceE stpE 84) [.slice (some ⟨lb, lo, none⟩) m lc] ((extU false r ((p, q), wd) L 0).map toS), oB g10 [.int .i64 (p : Int), .int .i64 (q : Int), .string W] 84] := S.sel [1, 0]
    clear hG4 HG3 S
    go_wp2
    go_loopw [8, 11] (fun vl q' wr => ∃ (k : Nat) (v : Value), k ≤ c ∧ vl = v ∧ q' = .int .i64 k ∧ Star w wr [oE (sliceE stpE 84) [v] ((extU false r ((p, q), wd) L k).map toS), oB g10 [.int .i64 (p : Int), .int .i64 (q : Int), .string W] 84]) (fun _ q' _ => c - (intOf q').toNat)
    case atStart => exact ⟨0, _, Nat.zero_le _, rfl, rfl, S0⟩
    case round =>
      clear S0
      obtain ⟨k, v, hk, rfl, rfl, S⟩ := hrel
      obtain ⟨va, vn, vc, rfl⟩ := S.slc 0 rfl
      have BW := S.below
      have PR := HA.out.of BW HA.out.lt
      have d0 := PR.cell 0 rfl
      by_cases hkl : k < c
      case neg =>
        obtain rfl : c = k := by omega
        go_wp2
        have hle : i + 1 ≤ (extU false r ((p, q), wd) L c).length := by
          obtain ⟨X, hX⟩ := extU_pre false r ((p, q), wd) L c
          rw [hX, List.length_append, ← HM.out]; omega
        go_roundw
        case rel => exact ⟨i + 1, _, _, hle, by omega, rfl, by go_num, S.sel [0], HG4, Lib.hid (HIK.out c (Nat.le_refl _)), Lib.hid (HWK.out c)⟩
        case measure => simp [intOf]; omega
      obtain ⟨vk, nr1, nrd⟩ := N4.out p hp
      have hrl : (r.next[p]?.getD default).length = c := by rw [HK.out.rowlen (by rw [← HN.out]; exact hp), HC.out]
      obtain ⟨rb, ro, rc, rfl, u1, u2, u4⟩ := rd_s1p rfl nrd (by rw [hrl]; omega)
      rw [hrl] at u1 u4 nr1
      obtain ⟨vk, nc1, ni1⟩ := u4 k hkl
      obtain ⟨hna, hla⟩ := HK.out.next (a := p) (l := k) (by rw [← HN.out]; exact hp) (by rw [HC.out]; exact hkl)
      obtain ⟨hvk, -⟩ := ni1
      obtain rfl : vk = .int .i64 ((nxtU r p k : Nat) : Int) := by rw [← hna]; simpa using hvk
      obtain ⟨vk, nr2, nrd2⟩ := N4.out q hq
      have hrl2 : (r.next[q]?.getD default).length = c := by rw [HK.out.rowlen (by rw [← HN.out]; exact hq), HC.out]
      obtain ⟨sb, so, sc, rfl, t1, t2, t4⟩ := rd_s1p rfl nrd2 (by rw [hrl2]; omega)
      rw [hrl2] at t1 t4 nr2
      obtain ⟨vk, nc2, ni2⟩ := t4 k hkl
      obtain ⟨hnb, hlb⟩ := HK.out.next (a := q) (l := k) (by rw [← HN.out]; exact hq) (by rw [HC.out]; exact hkl)
      obtain ⟨hvk2, -⟩ := ni2
      obtain rfl : vk = .int .i64 ((nxtU r q k : Nat) : Int) := by rw [← hnb]; simpa using hvk2
      have hsu := extU_succ false r ((p, q), wd) L k
      have hpu : pairU r ((p, q), wd) k = (nxtU r p k, nxtU r q k) := rfl
      unfold ext1 at hsu
      rw [hpu] at hsu
      obtain ⟨a', ha'⟩ : ∃ y, y = nxtU r p k := ⟨_, rfl⟩
      obtain ⟨b', hb'⟩ : ∃ y, y = nxtU r q k := ⟨_, rfl⟩
      rw [← ha'] at nc1 hsu hla
      rw [← hb'] at nc2 hsu hlb
      rw [← HN.out] at hla hlb
      have hIl := (HIK.out k hk).len
      obtain ⟨Lk, hLk⟩ : ∃ y, y = extU false r ((p, q), wd) L k := ⟨_, rfl⟩
      rw [← hLk] at hsu hIl S
      have HSU := Lib.hid hsu
      have w0 := (BW.cell (World.block_lt_of_cell? w _ nr1)).trans nr1
      have w3 := (BW.cell (World.block_lt_of_cell? w _ nr2)).trans nr2
      have w4 := (BW.cell (World.block_lt_of_cell? w _ nc1)).trans nc1
      have w5 := (BW.cell (World.block_lt_of_cell? w _ nc2)).trans nc2
      clear nrd nrd2 u4 t4 nr1 nr2 nc1 nc2 hvk hvk2 hna hnb hrl hrl2 hsu hpu ha' hb' hLk
      have d3 := PR.cell 3 rfl
      have g0 := PR.lt
      have e0 := (S.blk 1 rfl).cell 0 rfl
      have e1 := (S.blk 1 rfl).cell 1 rfl
      have g1 := (S.blk 1 rfl).lt
      have g3 : nb < wr.heap.size := World.block_lt_of_cell? wr _ w0
      have g4 : rb < wr.heap.size := World.block_lt_of_cell? wr _ w4
      have g5 : sb < wr.heap.size := World.block_lt_of_cell? wr _ w5
      have hov := cell_over wr
      have j5 : (0 : Int) ≤ (k : Int) := by omega
      have j6 : (k : Int) < (c : Int) := by omega
      go_wp2_with fail
      refine wp_region_over (by kernel_rfl) (by kernel_rfl) ?_
      repeat (go_big_quiet_step (fail))
      refine wpQuiet_nil ?_
      intro w6 b6
      have z0 := (b6.cell g3).trans w0
      have z3 := (b6.cell g3).trans w3
      have z4 := (b6.cell g4).trans w4
      have z5 := (b6.cell g5).trans w5
      replace S := S.step b6
      clear w0 w3 w4 w5 g0 g1 hov b6 d3 e0 e1 d0 BW PR
      have BW := S.below
      have PR := HA.out.of BW HA.out.lt
      have d3 := PR.cell 3 rfl
      have g0 := PR.lt
      have e0 := (S.blk 1 rfl).cell 0 rfl
      have e1 := (S.blk 1 rfl).cell 1 rfl
      have g1 := (S.blk 1 rfl).lt
      have g3 : nb < w6.heap.size := World.block_lt_of_cell? w6 _ z0
      have g4 : rb < w6.heap.size := World.block_lt_of_cell? w6 _ z4
      have g5 : sb < w6.heap.size := World.block_lt_of_cell? w6 _ z5
      have hov := cell_over w6
      go_wp2_with fail
      refine wp_region_over (by kernel_rfl) (by kernel_rfl) ?_
      repeat (go_big_quiet_step (fail))
      refine wpQuiet_nil ?_
      intro w7 b7
      replace S := S.step b7
      clear z0 z3 z4 z5 g0 g1 g3 g4 g5 hov b7 d3 e0 e1 BW PR
      by_cases hab : a' = b'
      case pos =>
        have tC : ((a' : Int) != (b' : Int)) = false := by simp [hab]
        have hE : extU false r ((p, q), wd) L (k + 1) = Lk := by
          rw [HSU.out, hab]; simp
        have HE := Lib.hid hE
        clear hE
        go_wp2
        go_roundw
        case rel => exact ⟨k + 1, _, by omega, rfl, by go_num, by rw [HE.out]; exact S⟩
        case measure => simp [intOf]; omega
      have tC : ((a' : Int) != (b' : Int)) = true := by simp; omega
      have hne : (a' != b') = true := by simpa using hab
      go_wp2_with fail
      refine (l05Met_any _ _ (a' : Int) (b' : Int) _ w7 (S.rd 0 rfl) (by rw [List.length_map]; omega)).mono ?_
      rintro e' w8 ⟨rfl, b8⟩
      replace S := S.step b8
      clear b8
      rw [any_met]
      cases hmet : (Lk.any fun x => x.1 == (a', b'))
      case true =>
        have hE : extU false r ((p, q), wd) L (k + 1) = Lk := by
          rw [HSU.out, hmet]; simp
        have HE := Lib.hid hE
        clear hE hmet
        go_wp2
        go_roundw
        case rel => exact ⟨k + 1, _, by omega, rfl, by go_num, by rw [HE.out]; exact S⟩
        case measure => simp [intOf]; omega
      have hE : extU false r ((p, q), wd) L (k + 1) = Lk ++ [((a', b'), wd ++ [UInt8.ofNat (97 + k)])] := by
        rw [HSU.out, hmet, hne]; rfl
      obtain ⟨d, hd⟩ : ∃ d, d = UInt8.ofNat (97 + k) := ⟨_, rfl⟩
      have hdn : (d.toNat : Int) = 97 + (k : Int) := by
        rw [hd, UInt8.toNat_ofNat']
        have : (97 + k) % 2 ^ 8 = 97 + k := Nat.mod_eq_of_lt (by omega)
        omega
      rw [← hd] at hE
      have hE2 : (extU false r ((p, q), wd) L (k + 1)).map toS = Lk.map toS ++ [⟨a', b', W ++ ⟨#[d]⟩⟩] := by
        rw [hE, List.map_append, HWD.out]
        show _ ++ [toS ((a', b'), wd ++ [d])] = _
        rw [toS_snoc]
      have wa : IntKind.i64.wrap (97 + (k : Int)) = 97 + (k : Int) := IntWalk.i64_in _ ⟨by omega, by omega⟩
      have wb : IntKind.u8.wrap (97 + (k : Int)) = 97 + (k : Int) := IntWalk.u8_in _ ⟨by omega, by omega⟩
      have HD := Lib.hid hdn; have HE2 := Lib.hid hE2
      have ba : bd64 (a' : Int) := ⟨by omega, by omega⟩
      have bb : bd64 (b' : Int) := ⟨by omega, by omega⟩
      have hWz : (W ++ (⟨#[d]⟩ : ByteArray)).size ≤ maxLen := by rw [ByteArray.size_append]; show W.size + 1 ≤ _; unfold maxLen; omega
      have hd1 : (⟨#[d]⟩ : ByteArray).size ≤ 1 := Nat.le_refl _
      have hll : (Lk.map toS).length ≤ 1000000000000 := by rw [List.length_map]; omega
      have e2 := (S.blk 1 rfl).cell 2 rfl
      have e2a := fun o => ((S.blk 1 rfl).alloc o).cell 2 rfl
      have hcv := run_convert_bytes_back (P := Try.prog) (w8.alloc (.cells #[.int .u8 (97 + (k : Int))] 5)) 87 9 5 ⟨w8.heap.size, 0, none⟩ 1 [d] Try.underlying87 Try.underlying5 Try.underlying9 (fun j hj => by
        obtain rfl : j = 0 := by simpa using hj
        rw [Addr.add_lit]
        simp [HD.out])
      have hl1 : [d].length = 1 := rfl
      rw [hl1] at hcv
      have SB0 := (S.alloc (cs := #[.int .u8 (97 + (k : Int))]) (ty := 5)).alloc (cs := #[.int .i64 (a' : Int), .int .i64 (b' : Int), .string (W ++ ⟨#[d]⟩)]) (ty := 84)
      rw [World.size_alloc] at SB0
      have SB := (SB0.flat (ow_stp (x := ⟨a', b', W ++ ⟨#[d]⟩⟩) ba bb hWz _)).sel [3, 0, 4]
      clear hd hdn hE hE2 SB0
      go_wp2_with (at_builtin; refine st1_StpS SB rfl rfl rfl rfl cell_a2 (by intro u hu; simp at hu; rcases hu with rfl | rfl | rfl <;> rfl) hll ?_; intro ja jn jc w9 S9)
      go_roundw
      case rel => exact ⟨k + 1, _, by omega, rfl, by go_num, by rw [HE2.out]; exact S9⟩
      case measure => simp [intOf]; omega

end Go.Proofs.Ytmbecaiieibcjaa
