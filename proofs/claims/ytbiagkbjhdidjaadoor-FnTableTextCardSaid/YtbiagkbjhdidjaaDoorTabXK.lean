/-
  The text of a table: the program's exitsText and TableText at a right table.
-/
import Derived.Test.YtbiagkbjhdidjaaDoorTabTK
import Derived.Test.YtbiagkbjhdidjaaDoorTabVK
import Derived.Test.YtbiagkbjhdidjaaDoorNumsK
namespace Go.Proofs.YtbiagkbjhdidjaaDoor
open Go.RowKit

theorem exsT_snoc (l : List Ext) (k : Nat) (h : k < l.length) : exsT (l.take (k + 1)) = exsT (l.take k) ++ (32 :: exW (l[k]?.getD default)) := by
  unfold exsT
  rw [List.take_succ_eq_append_getElem h, List.flatMap_append, List.getElem?_eq_getElem h]
  simp

theorem mkB_lit2 (a b : UInt8) (r : List UInt8) : mkB (a :: b :: r) = (ByteArray.mk #[a, b]) ++ mkB r := mkB_app [a, b] r
theorem mkB_lit1 (a : UInt8) (r : List UInt8) : mkB (a :: r) = (ByteArray.mk #[a]) ++ mkB r := mkB_app [a] r

set_option maxHeartbeats 4000000 in
set_option maxRecDepth 100000 in
theorem exitsText_any (v : Value) (l : List Ext) (B : Nat) (w : World) (hB : B ≤ w.heap.size) (h : exitsE.rd w B [v] l) (hl : ∀ e, e ∈ l → exitOk 12 e) (hn : l.length ≤ 12) (hT : Pow10 w.heap.size w) :
    Calls Tryd.prog 19 #[v] w (Gives (.string (mkB (exsT l))) w) := by
  obtain ⟨a, cap, rfl, h1, h2, -, h4⟩ := rd_exitsE h
  obtain ⟨n, hn'⟩ : ∃ n, n = l.length := ⟨_, rfl⟩
  rw [← hn'] at h4 h1 hn ⊢
  have HN := Lib.hid hn'; have H4 := Lib.hid h4; have HL := Lib.hid hl; have HT := Lib.hid hT
  clear hn' h4 hl hT h
  go_enter Tryd.func19, Tryd.ntmps19
  go_wp2
  go_loopw [3, 5, 8, 23, 31] (fun vo _ vk _ _ wr => ∃ (k : Nat) (o : ByteArray), k ≤ n ∧ vo = .string o ∧ vk = .int .i64 k ∧ Below w.heap.size w wr ∧ Hid (o = mkB (exsT (l.take k))) ∧ o.size ≤ 4 * k) (fun _ _ vk _ _ _ => n - (intOf vk).toNat)
  case atStart => exact ⟨0, _, Nat.zero_le _, rfl, rfl, Below.refl _ _, Lib.hid rfl, Nat.le_refl _⟩
  case round =>
    obtain ⟨k, o, hk, rfl, rfl, hB2, HO, hos⟩ := hrel
    by_cases hkn : k < n
    case neg =>
      obtain rfl : k = n := by omega
      go_wp2
      go_ret
      exact ⟨by rw [HO.out, HN.out, List.take_length]; rfl, hB2⟩
    have hkl : k < l.length := by rw [← HN.out]; exact hkn
    obtain ⟨xb, xo, rfl, -, ⟨c0, c1⟩, -⟩ := H4.out k hkn
    have c0 := (hB2.cell (World.block_lt_of_cell? w _ c0)).trans c0
    have c1 := (hB2.cell (World.block_lt_of_cell? w _ c1)).trans c1
    have hok := HL.out _ (mem_getDE hkl)
    have hsn := exsT_snoc l k hkl
    obtain ⟨⟨s, t⟩, he⟩ : ∃ e, e = l[k]?.getD default := ⟨_, rfl⟩
    rw [← he] at c0 c1 hok hsn
    simp only at c0 c1
    have hnext : mkB (exsT (l.take (k + 1))) = o ++ mkB (32 :: exW ⟨s, t⟩) := by rw [hsn, mkB_app, HO.out]
    have hsm := (readsW hok).small
    have hsz : (mkB (32 :: exW ⟨s, t⟩)).size ≤ 4 := by rw [mkB_size, List.length_cons]; omega
    have HNX := Lib.hid hnext
    have S := ((Star.nil w).step hB2).alloc (cs := #[.int .i64 s, .int .i64 t]) (ty := 53)
    have HB := Lib.hid hB2
    clear he hsn hnext hsm hkl HO hB2
    unfold exitOk at hok
    simp only at hok
    rcases hok with ⟨rfl, h5, h6⟩ | ⟨h5, h6, h7⟩
    · have ht : t = -3 ∨ t = -2 ∨ t = -1 := by omega
      clear h5 h6
      have SB := S.alloc (cs := #[.string ⟨#[111, 110]⟩, .string ⟨#[110, 111]⟩, .string ⟨#[121, 101, 115]⟩]) (ty := 9)
      rcases ht with rfl | rfl | rfl
      · have hcat : o.size + (ByteArray.mk #[32, 111, 110]).size ≤ 9223372036854775807 := by show _ + 3 ≤ _; omega
        have hw : mkB (32 :: exW ⟨0, -3⟩) = ByteArray.mk #[32, 111, 110] := by decide
        have HW := Lib.hid hw
        clear hw
        go_wp2
        go_roundw
        case rel => exact ⟨k + 1, _, by omega, rfl, by go_num, SB.below, Lib.hid (by rw [HNX.out, HW.out]; rfl), by rw [ByteArray.size_append]; show _ + 3 ≤ _; omega⟩
        case measure => simp [intOf]; omega
      · have hcat : o.size + (ByteArray.mk #[32, 110, 111]).size ≤ 9223372036854775807 := by show _ + 3 ≤ _; omega
        have hw : mkB (32 :: exW ⟨0, -2⟩) = ByteArray.mk #[32, 110, 111] := by decide
        have HW := Lib.hid hw
        clear hw
        go_wp2
        go_roundw
        case rel => exact ⟨k + 1, _, by omega, rfl, by go_num, SB.below, Lib.hid (by rw [HNX.out, HW.out]; rfl), by rw [ByteArray.size_append]; show _ + 3 ≤ _; omega⟩
        case measure => simp [intOf]; omega
      · have hcat : o.size + (ByteArray.mk #[32, 121, 101, 115]).size ≤ 9223372036854775807 := by show _ + 4 ≤ _; omega
        have hw : mkB (32 :: exW ⟨0, -1⟩) = ByteArray.mk #[32, 121, 101, 115] := by decide
        have HW := Lib.hid hw
        clear hw
        go_wp2
        go_roundw
        case rel => exact ⟨k + 1, _, by omega, rfl, by go_num, SB.below, Lib.hid (by rw [HNX.out, HW.out]; rfl), by rw [ByteArray.size_append]; show _ + 4 ≤ _; omega⟩
        case measure => simp [intOf]; omega
    · obtain ⟨p, rfl⟩ : ∃ p : Nat, t = p := ⟨t.toNat, by omega⟩
      have hp : p ≤ 999 := by omega
      have HD := Lib.hid (fun w' (bl : Below w.heap.size w w') => decimal_any p (by omega) w' (HT.out.step bl).here)
      rcases h5 with rfl | rfl
      · have hw : mkB (32 :: exW ⟨-1, (p : Int)⟩) = ByteArray.mk #[32, 60] ++ decB p := by
          unfold exW; rw [if_pos rfl, Int.toNat_natCast]; exact mkB_lit2 32 60 _
        rw [hw] at hsz HNX
        obtain ⟨d, hd⟩ : ∃ d, d = decB p := ⟨_, rfl⟩
        rw [← hd] at hsz HNX HD
        rw [ByteArray.size_append] at hsz
        have hc1 : (ByteArray.mk #[32, 60]).size + d.size ≤ 9223372036854775807 := by omega
        have hc2 : o.size + ((ByteArray.mk #[32, 60]) ++ d).size ≤ 9223372036854775807 := by rw [ByteArray.size_append]; omega
        clear hw hd
        go_wp2_with fail
        refine (HD.out _ S.below).mono ?_
        rintro e w5 ⟨rfl, b5⟩
        replace S := S.step b5
        go_wp2
        go_roundw
        case rel => exact ⟨k + 1, _, by omega, rfl, by go_num, S.below, Lib.hid HNX.out.symm, by rw [ByteArray.size_append, ByteArray.size_append]; omega⟩
        case measure => simp [intOf]; omega
      · have hw : mkB (32 :: exW ⟨1, (p : Int)⟩) = ByteArray.mk #[32, 62] ++ decB p := by
          unfold exW; rw [if_neg (show ¬ (1 : Int) = -1 by decide), if_pos rfl, Int.toNat_natCast]; exact mkB_lit2 32 62 _
        rw [hw] at hsz HNX
        obtain ⟨d, hd⟩ : ∃ d, d = decB p := ⟨_, rfl⟩
        rw [← hd] at hsz HNX HD
        rw [ByteArray.size_append] at hsz
        have hc1 : (ByteArray.mk #[32, 62]).size + d.size ≤ 9223372036854775807 := by omega
        have hc2 : o.size + ((ByteArray.mk #[32, 62]) ++ d).size ≤ 9223372036854775807 := by rw [ByteArray.size_append]; omega
        clear hw hd
        go_wp2_with fail
        refine (HD.out _ S.below).mono ?_
        rintro e w5 ⟨rfl, b5⟩
        replace S := S.step b5
        go_wp2
        go_roundw
        case rel => exact ⟨k + 1, _, by omega, rfl, by go_num, S.below, Lib.hid HNX.out.symm, by rw [ByteArray.size_append, ByteArray.size_append]; omega⟩
        case measure => simp [intOf]; omega

set_option maxHeartbeats 4000000 in
set_option maxRecDepth 100000 in
theorem tableText_any (n : Nat) (x : Table) (cs : List Value) (B : Nat) (w : World) (hB : B ≤ w.heap.size) (h : tabE.rd w B cs x) (hx : TabOk n x) (hn : n ≤ 12) (hT : Pow10 w.heap.size w) :
    Calls Tryd.prog 8 #[.agg cs.toArray] w (Gives (.string (mkB (tableT x))) w) := by
  have HV := Lib.hid (fun w' (bl : Below w.heap.size w w') => validTable_yes n x cs B w' (Nat.le_trans hB bl.size) (tabE.rd_of (bl.mono hB) h) hx hn)
  obtain ⟨v1, v2, rfl, h1, h2⟩ := rd_Table h
  obtain ⟨a1, n1, c1, rfl⟩ := rd_slice h1
  obtain ⟨a2, n2, c2, rfl⟩ := rd_slice h2
  have H1 := Lib.hid h1; have H2 := Lib.hid h2; have HX := Lib.hid hx; have HT := Lib.hid hT
  have hs1 : (mkB (exsT x.left)).size ≤ 48 := by rw [mkB_size]; have := exsT_size x.left (fun e he => allEx_mono hn (hx.le e he)); have := hx.l; omega
  have hs2 : (mkB (exsT x.right)).size ≤ 48 := by rw [mkB_size]; have := exsT_size x.right (fun e he => allEx_mono hn (hx.re e he)); have := hx.r; omega
  have hfin : mkB (tableT x) = ((((ByteArray.mk #[108, 101, 102, 116]) ++ mkB (exsT x.left)) ++ (ByteArray.mk #[10, 114, 105, 103, 104, 116])) ++ mkB (exsT x.right)) ++ (ByteArray.mk #[10]) := by
    have e : tableT x = ((([108, 101, 102, 116] ++ exsT x.left) ++ [10, 114, 105, 103, 104, 116]) ++ exsT x.right) ++ [10] := by unfold tableT leftW rightW; simp
    rw [e, mkB_app, mkB_app, mkB_app, mkB_app]
    rfl
  have HF := Lib.hid hfin
  have HL1 := Lib.hid (show ∀ e, e ∈ x.left → exitOk 12 e from fun e he => allEx_mono hn (hx.le e he)); have HL2 := Lib.hid (show ∀ e, e ∈ x.right → exitOk 12 e from fun e he => allEx_mono hn (hx.re e he))
  have S := (Star.nil w).alloc (cs := #[.slice a1 n1 c1, .slice a2 n2 c2]) (ty := 27)
  clear h h1 h2 hx hT hfin
  go_enter Tryd.func8, Tryd.ntmps8
  go_wp2_with fail
  generalize hW : w.alloc _ = w0 at S ⊢
  clear hW
  refine (HV.out w0 S.below).mono ?_
  rintro e w1 ⟨rfl, b1⟩
  replace S := S.step b1
  clear b1 HV
  have x0 := (S.blk 0 rfl).cell 0 rfl
  have x1 := (S.blk 0 rfl).cell 1 rfl
  have gl1 := (S.blk 0 rfl).lt
  have hov := cell_over w1
  have HS := Lib.hid S
  obtain ⟨t1, ht1⟩ : ∃ t, t = mkB (exsT x.left) := ⟨_, rfl⟩
  obtain ⟨t2, ht2⟩ : ∃ t, t = mkB (exsT x.right) := ⟨_, rfl⟩
  rw [← ht1] at hs1 HF
  rw [← ht2] at hs2 HF
  have HT1 := Lib.hid ht1; have HT2 := Lib.hid ht2
  have g1 : (ByteArray.mk #[108, 101, 102, 116]).size + t1.size ≤ 9223372036854775807 := by show 4 + _ ≤ _; omega
  have g2 : ((ByteArray.mk #[108, 101, 102, 116]) ++ t1).size + (ByteArray.mk #[10, 114, 105, 103, 104, 116]).size ≤ 9223372036854775807 := by rw [ByteArray.size_append]; show 4 + _ + 6 ≤ _; omega
  have g3 : (((ByteArray.mk #[108, 101, 102, 116]) ++ t1) ++ (ByteArray.mk #[10, 114, 105, 103, 104, 116])).size + t2.size ≤ 9223372036854775807 := by rw [ByteArray.size_append, ByteArray.size_append]; show 4 + _ + 6 + _ ≤ _; omega
  have g4 : ((((ByteArray.mk #[108, 101, 102, 116]) ++ t1) ++ (ByteArray.mk #[10, 114, 105, 103, 104, 116])) ++ t2).size + (ByteArray.mk #[10]).size ≤ 9223372036854775807 := by rw [ByteArray.size_append, ByteArray.size_append, ByteArray.size_append]; show 4 + _ + 6 + _ + 1 ≤ _; omega
  have HE1 := Lib.hid (fun w' (bl : Below w.heap.size w w') => show Calls Tryd.prog 19 #[.slice a1 n1 c1] w' (Gives (.string t1) w') from by
    rw [ht1]; exact exitsText_any _ x.left B w' (Nat.le_trans hB bl.size) (exitsE.rd_of (bl.mono hB) H1.out) HL1.out (by rw [HX.out.l]; exact hn) ((HT.out.step bl).up bl.size))
  have HE2 := Lib.hid (fun w' (bl : Below w.heap.size w w') => show Calls Tryd.prog 19 #[.slice a2 n2 c2] w' (Gives (.string t2) w') from by
    rw [ht2]; exact exitsText_any _ x.right B w' (Nat.le_trans hB bl.size) (exitsE.rd_of (bl.mono hB) H2.out) HL2.out (by rw [HX.out.r]; exact hn) ((HT.out.step bl).up bl.size))
  clear S ht1 ht2
  go_wp2
  refine wp_region_over (by kernel_rfl) (by kernel_rfl) ?_
  go_big_quiet_step (fail) -- s1
  go_big_quiet_step (fail) -- s2
  go_big_quiet_step ((go_at_call 19; exact calls_over (HE1.out _ (HS.out.below.trans ((below_over w1 _).mono HS.out.below.size)))))
  go_big_quiet_step (fail) -- s3
  go_big_quiet_step (fail) -- s4
  go_big_quiet_step (fail) -- s5
  go_big_quiet_step (fail) -- s6
  go_big_quiet_step ((go_at_call 19; exact calls_over (HE2.out _ (HS.out.below.trans ((below_over w1 _).mono HS.out.below.size)))))
  go_big_quiet_step (fail) -- s7
  go_big_quiet_step (fail) -- s8
  go_big_quiet_step (fail) -- s9
  refine wpQuiet_nil ?_
  intro w5 hw5
  go_wp2
  go_ret
  exact ⟨congrArg (fun s => Ending.returned (.string s)) HF.out.symm, (HS.out.step hw5).below⟩

end Go.Proofs.YtbiagkbjhdidjaaDoor
