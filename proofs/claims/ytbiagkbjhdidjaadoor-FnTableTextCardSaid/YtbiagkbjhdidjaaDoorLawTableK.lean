/-
  The law FnTableText: whatever the bytes, it returns true and leaves what was there as it was (written by a program of this claim's own, gen_tablaw.py).
-/
import Derived.Test.YtbiagkbjhdidjaaDoorDrawTK
import Derived.Test.YtbiagkbjhdidjaaDoorTabLK
import Derived.Test.YtbiagkbjhdidjaaDoorTabMK
import Derived.Deep.DeepCutAuto
namespace Go.Proofs.YtbiagkbjhdidjaaDoor
open Go.RowKit

/-- A box with a table. -/
structure TbAt (w : World) (g : Nat) (X : Table) (v1 v2 : Value) : Prop where
  b : Blk w g [v1, v2] 27
  rd : tabE.rd w w.heap.size [v1, v2] X

theorem TbAt.of {w w' : World} {g : Nat} {X : Table} {v1 v2 : Value} (h : TbAt w g X v1 v2) (b : Below w.heap.size w w') : TbAt w' g X v1 v2 := ⟨h.b.of b h.b.lt, tabE.rd_mono b.size (tabE.rd_of b h.rd)⟩

theorem TbAt.new {w : World} {X : Table} {v1 v2 : Value} (h : tabE.rd w w.heap.size [v1, v2] X) : TbAt (w.alloc (.cells #[v1, v2] 27)) w.heap.size X v1 v2 :=
  ⟨Blk.new w #[v1, v2] 27, tabE.rd_mono (by simp) (tabE.rd_of ((Below.refl _ _).alloc (Nat.le_refl _) _) h)⟩

theorem a2Long_is (r : Bool) (va vb : Value) (la lb : List Int) (B C : Nat) (w : World) (hr : decide (3000 < la.length ∨ 3000 < lb.length) = r) (h : bytesE.rd w B [va] la) (h' : bytesE.rd w C [vb] lb) :
    Calls Tryd.prog 4 #[va, vb] w (Keeps (.bool r) w) := by
  obtain ⟨a, ca, rfl, -, -, -, -⟩ := rd_bytes h
  obtain ⟨b, cb, rfl, -, -, -, -⟩ := rd_bytes h'
  obtain ⟨n, hn⟩ : ∃ n, n = la.length := ⟨_, rfl⟩
  obtain ⟨m, hm⟩ : ∃ m, m = lb.length := ⟨_, rfl⟩
  rw [← hn, ← hm] at hr
  rw [← hn, ← hm]
  have HR := Lib.hid hr
  clear hr h h' hn hm
  go_enter Tryd.func4, Tryd.ntmps4
  by_cases h1 : 3000 < n
  · have c1 : (3000 : Int) < (n : Int) := by omega
    have hr : r = true := by rw [← HR.out]; exact decide_eq_true (.inl h1)
    subst hr
    clear h1 HR
    go_wp2
    go_ret
    exact ⟨rfl, rfl⟩
  · have c1 : ¬ (3000 : Int) < (n : Int) := by omega
    by_cases h2 : 3000 < m
    · have c2 : (3000 : Int) < (m : Int) := by omega
      have hr : r = true := by rw [← HR.out]; exact decide_eq_true (.inr h2)
      subst hr
      clear h1 h2 HR
      go_wp2
      go_ret
      exact ⟨rfl, rfl⟩
    · have c2 : ¬ (3000 : Int) < (m : Int) := by omega
      have hr : r = false := by rw [← HR.out]; exact decide_eq_false (fun h => h.elim h1 h2)
      subst hr
      clear h1 h2 HR
      go_wp2
      go_ret
      exact ⟨rfl, rfl⟩

theorem a2At_is (i n : Nat) (v : Value) (l : List Int) (B : Nat) (w : World) (hi : i ≤ 1000) (hn1 : 1 ≤ n) (hn : n ≤ 1000) (h : bytesE.rd w B [v] l) :
    Calls Tryd.prog 5 #[v, .int .i64 (i : Nat), .int .i64 (n : Nat)] w (fun e w' => ∃ x : Nat, e = .returned (.int .i64 (x : Nat)) ∧ x < n ∧ w' = w) := by
  obtain ⟨a, ca, rfl, h1, h2, -, h4⟩ := rd_bytes h
  obtain ⟨m, hm⟩ : ∃ m, m = l.length := ⟨_, rfl⟩
  rw [← hm] at h1 h4 ⊢
  have H4 := Lib.hid h4
  clear h4 hm h
  go_enter Tryd.func5, Tryd.ntmps5
  by_cases hlt : i < m
  · obtain ⟨p, q, rfl, -, hc, lo, hi2⟩ := H4.out i hlt
    generalize l[i]?.getD 0 = x at *
    obtain ⟨x, rfl⟩ : ∃ k : Nat, x = k := ⟨x.toNat, by omega⟩
    have hn0 : ¬ n = 0 := by omega
    have c1 : ¬ (m : Int) ≤ (i : Int) := by omega
    have c2 : ¬ (n : Int) < 1 := by omega
    obtain ⟨z, hz⟩ : ∃ z, z = x % n := ⟨_, rfl⟩
    have hrem : (x : Int).tmod (n : Int) = (z : Int) := by rw [hz]; rfl
    have hzm : z < n := by rw [hz]; exact Nat.mod_lt _ (by omega)
    have i1 : (0 : Int) ≤ (i : Int) := by omega
    have i2 : (i : Int) < (m : Int) := by omega
    have wx : IntKind.i64.wrap (x : Int) = (x : Int) := IntWalk.i64_in _ ⟨by omega, by omega⟩
    clear hz
    go_wp2
    go_ret
    exact ⟨z, rfl, hzm, rfl⟩
  · have c1 : (m : Int) ≤ (i : Int) := by omega
    go_wp2
    go_ret
    exact ⟨0, rfl, by omega, rfl⟩

set_option maxHeartbeats 40000000 in
set_option maxRecDepth 100000 in
theorem lawFnTableText_any (v0 : Value) (code : List Int) (v1 : Value) (more : List Int) (m : Int) (w : World) (h0 : bytesE.rd w w.heap.size [v0] code) (h1 : bytesE.rd w w.heap.size [v1] more) (hM : MaxIsT m w.heap.size w) (hT : Pow10 w.heap.size w) :
    Calls Tryd.prog 3 #[v0, v1] w (Gives (.bool true) w) := by
  obtain ⟨ca, cc, rfl, -, -, -, -⟩ := rd_bytes h0
  obtain ⟨ma, mc, rfl, -, -, -, -⟩ := rd_bytes h1
  by_cases hl : 3000 < code.length ∨ 3000 < more.length
  · have HL := Lib.hid (a2Long_is true _ _ code more _ _ w (decide_eq_true hl) h0 h1)
    clear hl h0 h1 hM hT
    go_enter Tryd.func3, Tryd.ntmps3
    go_wp2_with fail
    refine HL.out.mono ?_
    rintro e w1 ⟨rfl, rfl⟩
    go_wp2
    go_ret
    exact ⟨rfl, Below.refl _ _⟩
  have HL := Lib.hid (a2Long_is false _ _ code more _ _ w (decide_eq_false hl) h0 h1)
  have HA := Lib.hid (a2At_is 0 5 _ more _ w (by omega) (by omega) (by omega) h1)
  have hcl : code.length ≤ 3000 := by
    by_cases h : 3000 < code.length
    · exact absurd (.inl h) hl
    · omega
  have HC := Lib.hid h0; have HO := Lib.hid h1; have HM := Lib.hid hM; have HT := Lib.hid hT
  clear hl h0 h1 hM hT
  go_enter Tryd.func3, Tryd.ntmps3
  go_wp2_with fail
  refine HL.out.mono ?_
  rintro e w ⟨rfl, rfl⟩
  go_wp2_with fail
  refine HA.out.mono ?_
  rintro e w ⟨n0, rfl, hn0, rfl⟩
  obtain ⟨n, hnn⟩ : ∃ n, n = 1 + n0 := ⟨_, rfl⟩
  have wn : IntKind.i64.wrap (1 + (n0 : Int)) = (n : Int) := by rw [hnn, Int.natCast_add]; exact IntWalk.i64_in _ ⟨by omega, by omega⟩
  have hn5 : n ≤ 5 := by omega
  have hn1 : 1 ≤ n := by omega
  have hn12 : n ≤ 12 := by omega
  clear HL HA hnn hn0
  have HB := Lib.hid (Below.refl w.heap.size w)
  go_wp2_with fail
  refine (A2Table_any n _ _ hn1 hn5 ⟨_, bytesE.rd_mono HB.out.size (bytesE.rd_of HB.out HC.out)⟩).mono ?_
  rintro e w1 ⟨X, hok, cs, f, rfl, o, nd, lo, b⟩
  have KX := Lib.hid hok
  replace HB := Lib.hid (HB.out.trans (b.mono HB.out.size))
  dsimp only [id] at o ⊢
  have hrd := tabE.rd_ow o
  obtain ⟨p1, p2, rfl, q1, q2⟩ := rd_Table hrd
  obtain ⟨lax, lnx, lcx, rfl⟩ := rd_slice q1
  obtain ⟨rax, rnx, rcx, rfl⟩ := rd_slice q2
  have Hx := Lib.hid (TbAt.new hrd)
  have ba := (Below.refl w1.heap.size w1).alloc (Nat.le_refl _) (.cells #[.slice lax lnx lcx, .slice rax rnx rcx] 27)
  replace HB := Lib.hid (HB.out.trans (ba.mono HB.out.size))
  clear hrd q1 q2 o nd lo b ba hok
  go_upto_region 5 with fail
  generalize hW : w1.alloc _ = w1a at HB Hx ⊢
  obtain ⟨gx, hg⟩ : ∃ g, g = w1.heap.size := ⟨_, rfl⟩
  rw [← hg] at Hx ⊢
  clear hW hg
  go_wp2_with fail
  refine (A2Table_any n _ _ hn1 hn5 ⟨_, bytesE.rd_mono HB.out.size (bytesE.rd_of HB.out HO.out)⟩).mono ?_
  rintro e w2 ⟨Y, hok, cs, f, rfl, o, nd, lo, b⟩
  have KY := Lib.hid hok
  replace Hx := Lib.hid (Hx.out.of b)
  replace HB := Lib.hid (HB.out.trans (b.mono HB.out.size))
  dsimp only [id] at o ⊢
  have hrd := tabE.rd_ow o
  obtain ⟨p1, p2, rfl, q1, q2⟩ := rd_Table hrd
  obtain ⟨lay, lny, lcy, rfl⟩ := rd_slice q1
  obtain ⟨ray, rny, rcy, rfl⟩ := rd_slice q2
  have Hy := Lib.hid (TbAt.new hrd)
  have ba := (Below.refl w2.heap.size w2).alloc (Nat.le_refl _) (.cells #[.slice lay lny lcy, .slice ray rny rcy] 27)
  replace Hx := Lib.hid (Hx.out.of ba)
  replace HB := Lib.hid (HB.out.trans (ba.mono HB.out.size))
  clear hrd q1 q2 o nd lo b ba hok
  go_upto_region 6 with fail
  generalize hW : w2.alloc _ = w2a at Hx HB Hy ⊢
  obtain ⟨gy, hg⟩ : ∃ g, g = w2.heap.size := ⟨_, rfl⟩
  rw [← hg] at Hy ⊢
  clear hW hg
  have SQ := (Star.nil w2a).alloc (cs := #[.int .u8 7]) (ty := 5)
  replace SQ := SQ.lits (E := byteE) [(7 : Int)] (fun x => [Value.int .u8 x]) 1 rfl rfl (fun x hx => by rw [List.mem_singleton.1 hx]; exact ⟨⟨rfl, by decide, by decide⟩, rfl⟩) (by decide)
  obtain ⟨css, fys, e1, e2, e3⟩ := src_bytes (bytesE.rd_of SQ.below (bytesE.rd_of HB.out HC.out |> bytesE.rd_mono HB.out.size))
  go_wp2_with (at_builtin; refine stS_ByteS (ys := code) SQ rfl rfl rfl e1 e2 e3 (by show 1 + _ ≤ _; omega) ?_; intro ja jn jc wq SQ2)
  have bq := SQ2.below
  replace Hx := Lib.hid (Hx.out.of bq)
  replace Hy := Lib.hid (Hy.out.of bq)
  replace HB := Lib.hid (HB.out.trans (bq.mono HB.out.size))
  refine (A2Table_any n _ _ hn1 hn5 ⟨_, SQ2.rd 0 rfl⟩).mono ?_
  rintro e w3 ⟨Z, hok, cs, f, rfl, o, nd, lo, b⟩
  have KZ := Lib.hid hok
  clear SQ SQ2 bq
  replace Hx := Lib.hid (Hx.out.of b)
  replace Hy := Lib.hid (Hy.out.of b)
  replace HB := Lib.hid (HB.out.trans (b.mono HB.out.size))
  dsimp only [id] at o ⊢
  have hrd := tabE.rd_ow o
  obtain ⟨p1, p2, rfl, q1, q2⟩ := rd_Table hrd
  obtain ⟨laz, lnz, lcz, rfl⟩ := rd_slice q1
  obtain ⟨raz, rnz, rcz, rfl⟩ := rd_slice q2
  have Hz := Lib.hid (TbAt.new hrd)
  have ba := (Below.refl w3.heap.size w3).alloc (Nat.le_refl _) (.cells #[.slice laz lnz lcz, .slice raz rnz rcz] 27)
  replace Hx := Lib.hid (Hx.out.of ba)
  replace Hy := Lib.hid (Hy.out.of ba)
  replace HB := Lib.hid (HB.out.trans (ba.mono HB.out.size))
  clear hrd q1 q2 o nd lo b ba hok
  go_upto_region 7 with fail
  generalize hW : w3.alloc _ = w3a at Hx Hy HB Hz ⊢
  obtain ⟨gz, hg⟩ : ∃ g, g = w3.heap.size := ⟨_, rfl⟩
  rw [← hg] at Hz ⊢
  clear hW hg
  have d00 := Hx.out.b.cell 0 rfl
  have d01 := Hx.out.b.cell 1 rfl
  go_wp2_with fail
  refine (tableText_any n X _ _ _ (Nat.le_refl _) Hx.out.rd KX.out hn12 ((HT.out.step HB.out).up HB.out.size)).mono ?_
  rintro e w4t ⟨rfl, b⟩
  clear d00 d01
  replace Hx := Lib.hid (Hx.out.of b)
  replace Hy := Lib.hid (Hy.out.of b)
  replace Hz := Lib.hid (Hz.out.of b)
  replace HB := Lib.hid (HB.out.trans (b.mono HB.out.size))
  clear b
  go_wp2_with fail
  refine (readTable_any n X m _ KX.out hn12 (fun w9 b9 => HM.out w9 (HB.out.trans (b9.mono HB.out.size))) ((HT.out.step HB.out).up HB.out.size)).mono ?_
  rintro e w4 ⟨cs, f, rfl, o, nd, lo, b⟩
  replace Hx := Lib.hid (Hx.out.of b)
  replace Hy := Lib.hid (Hy.out.of b)
  replace Hz := Lib.hid (Hz.out.of b)
  replace HB := Lib.hid (HB.out.trans (b.mono HB.out.size))
  dsimp only [id] at o ⊢
  have hrd := tabE.rd_ow o
  obtain ⟨p1, p2, rfl, q1, q2⟩ := rd_Table hrd
  obtain ⟨lak, lnk, lck, rfl⟩ := rd_slice q1
  obtain ⟨rak, rnk, rck, rfl⟩ := rd_slice q2
  have Hk := Lib.hid (TbAt.new hrd)
  have ba := (Below.refl w4.heap.size w4).alloc (Nat.le_refl _) (.cells #[.slice lak lnk lck, .slice rak rnk rck] 27)
  replace Hx := Lib.hid (Hx.out.of ba)
  replace Hy := Lib.hid (Hy.out.of ba)
  replace Hz := Lib.hid (Hz.out.of ba)
  replace HB := Lib.hid (HB.out.trans (ba.mono HB.out.size))
  clear hrd q1 q2 o nd lo b ba
  go_upto_region 8 with fail
  generalize hW : w4.alloc _ = w4a at Hx Hy Hz HB Hk ⊢
  obtain ⟨gk, hg⟩ : ∃ g, g = w4.heap.size := ⟨_, rfl⟩
  rw [← hg] at Hk ⊢
  clear hW hg
  have d00 := Hx.out.b.cell 0 rfl
  have d01 := Hx.out.b.cell 1 rfl
  have d10 := Hy.out.b.cell 0 rfl
  have d11 := Hy.out.b.cell 1 rfl
  go_wp2_with fail
  refine (joinTables_any n _ _ _ _ _ _ (Nat.le_refl _) Hx.out.rd Hy.out.rd KX.out KY.out hn12).mono ?_
  rintro e w5 ⟨cs, f, rfl, o, nd, lo, b⟩
  clear d00 d01 d10 d11
  replace Hx := Lib.hid (Hx.out.of b)
  replace Hy := Lib.hid (Hy.out.of b)
  replace Hz := Lib.hid (Hz.out.of b)
  replace Hk := Lib.hid (Hk.out.of b)
  replace HB := Lib.hid (HB.out.trans (b.mono HB.out.size))
  dsimp only [id] at o ⊢
  have hrd := tabE.rd_ow o
  obtain ⟨p1, p2, rfl, q1, q2⟩ := rd_Table hrd
  obtain ⟨laxy, lnxy, lcxy, rfl⟩ := rd_slice q1
  obtain ⟨raxy, rnxy, rcxy, rfl⟩ := rd_slice q2
  have Hxy := Lib.hid (TbAt.new hrd)
  have ba := (Below.refl w5.heap.size w5).alloc (Nat.le_refl _) (.cells #[.slice laxy lnxy lcxy, .slice raxy rnxy rcxy] 27)
  replace Hx := Lib.hid (Hx.out.of ba)
  replace Hy := Lib.hid (Hy.out.of ba)
  replace Hz := Lib.hid (Hz.out.of ba)
  replace Hk := Lib.hid (Hk.out.of ba)
  replace HB := Lib.hid (HB.out.trans (ba.mono HB.out.size))
  clear hrd q1 q2 o nd lo b ba
  go_upto_region 9 with fail
  generalize hW : w5.alloc _ = w5a at Hx Hy Hz Hk HB Hxy ⊢
  obtain ⟨gxy, hg⟩ : ∃ g, g = w5.heap.size := ⟨_, rfl⟩
  rw [← hg] at Hxy ⊢
  clear hW hg
  have d00 := Hxy.out.b.cell 0 rfl
  have d01 := Hxy.out.b.cell 1 rfl
  have d10 := Hz.out.b.cell 0 rfl
  have d11 := Hz.out.b.cell 1 rfl
  go_wp2_with fail
  refine (joinTables_any n _ _ _ _ _ _ (Nat.le_refl _) Hxy.out.rd Hz.out.rd (joined_ok KX.out KY.out) KZ.out hn12).mono ?_
  rintro e w6 ⟨cs, f, rfl, o, nd, lo, b⟩
  clear d00 d01 d10 d11
  replace Hx := Lib.hid (Hx.out.of b)
  replace Hy := Lib.hid (Hy.out.of b)
  replace Hz := Lib.hid (Hz.out.of b)
  replace Hk := Lib.hid (Hk.out.of b)
  replace Hxy := Lib.hid (Hxy.out.of b)
  replace HB := Lib.hid (HB.out.trans (b.mono HB.out.size))
  dsimp only [id] at o ⊢
  rw [joined_assoc KX.out KY.out KZ.out] at o
  have hrd := tabE.rd_ow o
  obtain ⟨p1, p2, rfl, q1, q2⟩ := rd_Table hrd
  obtain ⟨lale, lnle, lcle, rfl⟩ := rd_slice q1
  obtain ⟨rale, rnle, rcle, rfl⟩ := rd_slice q2
  have Hle := Lib.hid (TbAt.new hrd)
  have ba := (Below.refl w6.heap.size w6).alloc (Nat.le_refl _) (.cells #[.slice lale lnle lcle, .slice rale rnle rcle] 27)
  replace Hx := Lib.hid (Hx.out.of ba)
  replace Hy := Lib.hid (Hy.out.of ba)
  replace Hz := Lib.hid (Hz.out.of ba)
  replace Hk := Lib.hid (Hk.out.of ba)
  replace Hxy := Lib.hid (Hxy.out.of ba)
  replace HB := Lib.hid (HB.out.trans (ba.mono HB.out.size))
  clear hrd q1 q2 o nd lo b ba
  go_upto_region 10 with fail
  generalize hW : w6.alloc _ = w6a at Hx Hy Hz Hk Hxy HB Hle ⊢
  obtain ⟨gle, hg⟩ : ∃ g, g = w6.heap.size := ⟨_, rfl⟩
  rw [← hg] at Hle ⊢
  clear hW hg
  have d00 := Hy.out.b.cell 0 rfl
  have d01 := Hy.out.b.cell 1 rfl
  have d10 := Hz.out.b.cell 0 rfl
  have d11 := Hz.out.b.cell 1 rfl
  go_wp2_with fail
  refine (joinTables_any n _ _ _ _ _ _ (Nat.le_refl _) Hy.out.rd Hz.out.rd KY.out KZ.out hn12).mono ?_
  rintro e w7 ⟨cs, f, rfl, o, nd, lo, b⟩
  clear d00 d01 d10 d11
  replace Hx := Lib.hid (Hx.out.of b)
  replace Hy := Lib.hid (Hy.out.of b)
  replace Hz := Lib.hid (Hz.out.of b)
  replace Hk := Lib.hid (Hk.out.of b)
  replace Hxy := Lib.hid (Hxy.out.of b)
  replace Hle := Lib.hid (Hle.out.of b)
  replace HB := Lib.hid (HB.out.trans (b.mono HB.out.size))
  dsimp only [id] at o ⊢
  have hrd := tabE.rd_ow o
  obtain ⟨p1, p2, rfl, q1, q2⟩ := rd_Table hrd
  obtain ⟨layz, lnyz, lcyz, rfl⟩ := rd_slice q1
  obtain ⟨rayz, rnyz, rcyz, rfl⟩ := rd_slice q2
  have Hyz := Lib.hid (TbAt.new hrd)
  have ba := (Below.refl w7.heap.size w7).alloc (Nat.le_refl _) (.cells #[.slice layz lnyz lcyz, .slice rayz rnyz rcyz] 27)
  replace Hx := Lib.hid (Hx.out.of ba)
  replace Hy := Lib.hid (Hy.out.of ba)
  replace Hz := Lib.hid (Hz.out.of ba)
  replace Hk := Lib.hid (Hk.out.of ba)
  replace Hxy := Lib.hid (Hxy.out.of ba)
  replace Hle := Lib.hid (Hle.out.of ba)
  replace HB := Lib.hid (HB.out.trans (ba.mono HB.out.size))
  clear hrd q1 q2 o nd lo b ba
  go_upto_region 11 with fail
  generalize hW : w7.alloc _ = w7a at Hx Hy Hz Hk Hxy Hle HB Hyz ⊢
  obtain ⟨gyz, hg⟩ : ∃ g, g = w7.heap.size := ⟨_, rfl⟩
  rw [← hg] at Hyz ⊢
  clear hW hg
  have d00 := Hx.out.b.cell 0 rfl
  have d01 := Hx.out.b.cell 1 rfl
  have d10 := Hyz.out.b.cell 0 rfl
  have d11 := Hyz.out.b.cell 1 rfl
  go_wp2_with fail
  refine (joinTables_any n _ _ _ _ _ _ (Nat.le_refl _) Hx.out.rd Hyz.out.rd KX.out (joined_ok KY.out KZ.out) hn12).mono ?_
  rintro e w8 ⟨cs, f, rfl, o, nd, lo, b⟩
  clear d00 d01 d10 d11
  replace Hx := Lib.hid (Hx.out.of b)
  replace Hy := Lib.hid (Hy.out.of b)
  replace Hz := Lib.hid (Hz.out.of b)
  replace Hk := Lib.hid (Hk.out.of b)
  replace Hxy := Lib.hid (Hxy.out.of b)
  replace Hle := Lib.hid (Hle.out.of b)
  replace Hyz := Lib.hid (Hyz.out.of b)
  replace HB := Lib.hid (HB.out.trans (b.mono HB.out.size))
  dsimp only [id] at o ⊢
  have hrd := tabE.rd_ow o
  obtain ⟨p1, p2, rfl, q1, q2⟩ := rd_Table hrd
  obtain ⟨lari, lnri, lcri, rfl⟩ := rd_slice q1
  obtain ⟨rari, rnri, rcri, rfl⟩ := rd_slice q2
  have Hri := Lib.hid (TbAt.new hrd)
  have ba := (Below.refl w8.heap.size w8).alloc (Nat.le_refl _) (.cells #[.slice lari lnri lcri, .slice rari rnri rcri] 27)
  replace Hx := Lib.hid (Hx.out.of ba)
  replace Hy := Lib.hid (Hy.out.of ba)
  replace Hz := Lib.hid (Hz.out.of ba)
  replace Hk := Lib.hid (Hk.out.of ba)
  replace Hxy := Lib.hid (Hxy.out.of ba)
  replace Hle := Lib.hid (Hle.out.of ba)
  replace Hyz := Lib.hid (Hyz.out.of ba)
  replace HB := Lib.hid (HB.out.trans (ba.mono HB.out.size))
  clear hrd q1 q2 o nd lo b ba
  go_upto_region 12 with fail
  generalize hW : w8.alloc _ = w8a at Hx Hy Hz Hk Hxy Hle Hyz HB Hri ⊢
  obtain ⟨gri, hg⟩ : ∃ g, g = w8.heap.size := ⟨_, rfl⟩
  rw [← hg] at Hri ⊢
  clear hW hg
  go_wp2_with fail
  refine (emptyTable_any n _ hn12 hn1).mono ?_
  rintro e w9 ⟨cs, f, rfl, o, nd, lo, b⟩
  replace Hx := Lib.hid (Hx.out.of b)
  replace Hy := Lib.hid (Hy.out.of b)
  replace Hz := Lib.hid (Hz.out.of b)
  replace Hk := Lib.hid (Hk.out.of b)
  replace Hxy := Lib.hid (Hxy.out.of b)
  replace Hle := Lib.hid (Hle.out.of b)
  replace Hyz := Lib.hid (Hyz.out.of b)
  replace Hri := Lib.hid (Hri.out.of b)
  replace HB := Lib.hid (HB.out.trans (b.mono HB.out.size))
  dsimp only [id] at o ⊢
  have hrd := tabE.rd_ow o
  obtain ⟨p1, p2, rfl, q1, q2⟩ := rd_Table hrd
  obtain ⟨lae, lne, lce, rfl⟩ := rd_slice q1
  obtain ⟨rae, rne, rce, rfl⟩ := rd_slice q2
  have He := Lib.hid (TbAt.new hrd)
  have ba := (Below.refl w9.heap.size w9).alloc (Nat.le_refl _) (.cells #[.slice lae lne lce, .slice rae rne rce] 27)
  replace Hx := Lib.hid (Hx.out.of ba)
  replace Hy := Lib.hid (Hy.out.of ba)
  replace Hz := Lib.hid (Hz.out.of ba)
  replace Hk := Lib.hid (Hk.out.of ba)
  replace Hxy := Lib.hid (Hxy.out.of ba)
  replace Hle := Lib.hid (Hle.out.of ba)
  replace Hyz := Lib.hid (Hyz.out.of ba)
  replace Hri := Lib.hid (Hri.out.of ba)
  replace HB := Lib.hid (HB.out.trans (ba.mono HB.out.size))
  clear hrd q1 q2 o nd lo b ba
  go_upto_region 13 with fail
  generalize hW : w9.alloc _ = w9a at Hx Hy Hz Hk Hxy Hle Hyz Hri HB He ⊢
  obtain ⟨ge, hg⟩ : ∃ g, g = w9.heap.size := ⟨_, rfl⟩
  rw [← hg] at He ⊢
  clear hW hg
  have d00 := He.out.b.cell 0 rfl
  have d01 := He.out.b.cell 1 rfl
  have d10 := Hx.out.b.cell 0 rfl
  have d11 := Hx.out.b.cell 1 rfl
  go_wp2_with fail
  refine (joinTables_any n _ _ _ _ _ _ (Nat.le_refl _) He.out.rd Hx.out.rd (emptyT_ok hn1) KX.out hn12).mono ?_
  rintro e w10 ⟨cs, f, rfl, o, nd, lo, b⟩
  clear d00 d01 d10 d11
  replace Hx := Lib.hid (Hx.out.of b)
  replace Hy := Lib.hid (Hy.out.of b)
  replace Hz := Lib.hid (Hz.out.of b)
  replace Hk := Lib.hid (Hk.out.of b)
  replace Hxy := Lib.hid (Hxy.out.of b)
  replace Hle := Lib.hid (Hle.out.of b)
  replace Hyz := Lib.hid (Hyz.out.of b)
  replace Hri := Lib.hid (Hri.out.of b)
  replace He := Lib.hid (He.out.of b)
  replace HB := Lib.hid (HB.out.trans (b.mono HB.out.size))
  dsimp only [id] at o ⊢
  rw [empty_joined KX.out] at o
  have hrd := tabE.rd_ow o
  obtain ⟨p1, p2, rfl, q1, q2⟩ := rd_Table hrd
  obtain ⟨labe, lnbe, lcbe, rfl⟩ := rd_slice q1
  obtain ⟨rabe, rnbe, rcbe, rfl⟩ := rd_slice q2
  have Hbe := Lib.hid (TbAt.new hrd)
  have ba := (Below.refl w10.heap.size w10).alloc (Nat.le_refl _) (.cells #[.slice labe lnbe lcbe, .slice rabe rnbe rcbe] 27)
  replace Hx := Lib.hid (Hx.out.of ba)
  replace Hy := Lib.hid (Hy.out.of ba)
  replace Hz := Lib.hid (Hz.out.of ba)
  replace Hk := Lib.hid (Hk.out.of ba)
  replace Hxy := Lib.hid (Hxy.out.of ba)
  replace Hle := Lib.hid (Hle.out.of ba)
  replace Hyz := Lib.hid (Hyz.out.of ba)
  replace Hri := Lib.hid (Hri.out.of ba)
  replace He := Lib.hid (He.out.of ba)
  replace HB := Lib.hid (HB.out.trans (ba.mono HB.out.size))
  clear hrd q1 q2 o nd lo b ba
  go_upto_region 14 with fail
  generalize hW : w10.alloc _ = w10a at Hx Hy Hz Hk Hxy Hle Hyz Hri He HB Hbe ⊢
  obtain ⟨gbe, hg⟩ : ∃ g, g = w10.heap.size := ⟨_, rfl⟩
  rw [← hg] at Hbe ⊢
  clear hW hg
  have d00 := Hx.out.b.cell 0 rfl
  have d01 := Hx.out.b.cell 1 rfl
  have d10 := He.out.b.cell 0 rfl
  have d11 := He.out.b.cell 1 rfl
  go_wp2_with fail
  refine (joinTables_any n _ _ _ _ _ _ (Nat.le_refl _) Hx.out.rd He.out.rd KX.out (emptyT_ok hn1) hn12).mono ?_
  rintro e w11 ⟨cs, f, rfl, o, nd, lo, b⟩
  clear d00 d01 d10 d11
  replace Hx := Lib.hid (Hx.out.of b)
  replace Hy := Lib.hid (Hy.out.of b)
  replace Hz := Lib.hid (Hz.out.of b)
  replace Hk := Lib.hid (Hk.out.of b)
  replace Hxy := Lib.hid (Hxy.out.of b)
  replace Hle := Lib.hid (Hle.out.of b)
  replace Hyz := Lib.hid (Hyz.out.of b)
  replace Hri := Lib.hid (Hri.out.of b)
  replace He := Lib.hid (He.out.of b)
  replace Hbe := Lib.hid (Hbe.out.of b)
  replace HB := Lib.hid (HB.out.trans (b.mono HB.out.size))
  dsimp only [id] at o ⊢
  rw [joined_empty KX.out] at o
  have hrd := tabE.rd_ow o
  obtain ⟨p1, p2, rfl, q1, q2⟩ := rd_Table hrd
  obtain ⟨labh, lnbh, lcbh, rfl⟩ := rd_slice q1
  obtain ⟨rabh, rnbh, rcbh, rfl⟩ := rd_slice q2
  have Hbh := Lib.hid (TbAt.new hrd)
  have ba := (Below.refl w11.heap.size w11).alloc (Nat.le_refl _) (.cells #[.slice labh lnbh lcbh, .slice rabh rnbh rcbh] 27)
  replace Hx := Lib.hid (Hx.out.of ba)
  replace Hy := Lib.hid (Hy.out.of ba)
  replace Hz := Lib.hid (Hz.out.of ba)
  replace Hk := Lib.hid (Hk.out.of ba)
  replace Hxy := Lib.hid (Hxy.out.of ba)
  replace Hle := Lib.hid (Hle.out.of ba)
  replace Hyz := Lib.hid (Hyz.out.of ba)
  replace Hri := Lib.hid (Hri.out.of ba)
  replace He := Lib.hid (He.out.of ba)
  replace Hbe := Lib.hid (Hbe.out.of ba)
  replace HB := Lib.hid (HB.out.trans (ba.mono HB.out.size))
  clear hrd q1 q2 o nd lo b ba
  go_upto_region 15 with fail
  generalize hW : w11.alloc _ = w11a at Hx Hy Hz Hk Hxy Hle Hyz Hri He Hbe HB Hbh ⊢
  obtain ⟨gbh, hg⟩ : ∃ g, g = w11.heap.size := ⟨_, rfl⟩
  rw [← hg] at Hbh ⊢
  clear hW hg
  have d00 := Hx.out.b.cell 0 rfl
  have d01 := Hx.out.b.cell 1 rfl
  go_wp2_with fail
  refine (turnTable_any n _ _ _ _ (Nat.le_refl _) Hx.out.rd KX.out hn12).mono ?_
  rintro e w12 ⟨cs, f, rfl, o, nd, lo, b⟩
  clear d00 d01
  replace Hx := Lib.hid (Hx.out.of b)
  replace Hy := Lib.hid (Hy.out.of b)
  replace Hz := Lib.hid (Hz.out.of b)
  replace Hk := Lib.hid (Hk.out.of b)
  replace Hxy := Lib.hid (Hxy.out.of b)
  replace Hle := Lib.hid (Hle.out.of b)
  replace Hyz := Lib.hid (Hyz.out.of b)
  replace Hri := Lib.hid (Hri.out.of b)
  replace He := Lib.hid (He.out.of b)
  replace Hbe := Lib.hid (Hbe.out.of b)
  replace Hbh := Lib.hid (Hbh.out.of b)
  replace HB := Lib.hid (HB.out.trans (b.mono HB.out.size))
  dsimp only [id] at o ⊢
  have hrd := tabE.rd_ow o
  obtain ⟨p1, p2, rfl, q1, q2⟩ := rd_Table hrd
  obtain ⟨laa, lna, lca, rfl⟩ := rd_slice q1
  obtain ⟨raa, rna, rca, rfl⟩ := rd_slice q2
  have Ha := Lib.hid (TbAt.new hrd)
  have ba := (Below.refl w12.heap.size w12).alloc (Nat.le_refl _) (.cells #[.slice laa lna lca, .slice raa rna rca] 27)
  replace Hx := Lib.hid (Hx.out.of ba)
  replace Hy := Lib.hid (Hy.out.of ba)
  replace Hz := Lib.hid (Hz.out.of ba)
  replace Hk := Lib.hid (Hk.out.of ba)
  replace Hxy := Lib.hid (Hxy.out.of ba)
  replace Hle := Lib.hid (Hle.out.of ba)
  replace Hyz := Lib.hid (Hyz.out.of ba)
  replace Hri := Lib.hid (Hri.out.of ba)
  replace He := Lib.hid (He.out.of ba)
  replace Hbe := Lib.hid (Hbe.out.of ba)
  replace Hbh := Lib.hid (Hbh.out.of ba)
  replace HB := Lib.hid (HB.out.trans (ba.mono HB.out.size))
  clear hrd q1 q2 o nd lo b ba
  go_upto_region 18 with fail
  generalize hW : w12.alloc _ = w12a at Hx Hy Hz Hk Hxy Hle Hyz Hri He Hbe Hbh HB Ha ⊢
  obtain ⟨ga, hg⟩ : ∃ g, g = w12.heap.size := ⟨_, rfl⟩
  rw [← hg] at Ha ⊢
  clear hW hg
  have d00 := Hy.out.b.cell 0 rfl
  have d01 := Hy.out.b.cell 1 rfl
  go_wp2_with fail
  refine (turnTable_any n _ _ _ _ (Nat.le_refl _) Hy.out.rd KY.out hn12).mono ?_
  rintro e w13 ⟨cs, f, rfl, o, nd, lo, b⟩
  clear d00 d01
  replace Hx := Lib.hid (Hx.out.of b)
  replace Hy := Lib.hid (Hy.out.of b)
  replace Hz := Lib.hid (Hz.out.of b)
  replace Hk := Lib.hid (Hk.out.of b)
  replace Hxy := Lib.hid (Hxy.out.of b)
  replace Hle := Lib.hid (Hle.out.of b)
  replace Hyz := Lib.hid (Hyz.out.of b)
  replace Hri := Lib.hid (Hri.out.of b)
  replace He := Lib.hid (He.out.of b)
  replace Hbe := Lib.hid (Hbe.out.of b)
  replace Hbh := Lib.hid (Hbh.out.of b)
  replace Ha := Lib.hid (Ha.out.of b)
  replace HB := Lib.hid (HB.out.trans (b.mono HB.out.size))
  dsimp only [id] at o ⊢
  have hrd := tabE.rd_ow o
  obtain ⟨p1, p2, rfl, q1, q2⟩ := rd_Table hrd
  obtain ⟨lab, lnb, lcb, rfl⟩ := rd_slice q1
  obtain ⟨rab, rnb, rcb, rfl⟩ := rd_slice q2
  have Hb := Lib.hid (TbAt.new hrd)
  have ba := (Below.refl w13.heap.size w13).alloc (Nat.le_refl _) (.cells #[.slice lab lnb lcb, .slice rab rnb rcb] 27)
  replace Hx := Lib.hid (Hx.out.of ba)
  replace Hy := Lib.hid (Hy.out.of ba)
  replace Hz := Lib.hid (Hz.out.of ba)
  replace Hk := Lib.hid (Hk.out.of ba)
  replace Hxy := Lib.hid (Hxy.out.of ba)
  replace Hle := Lib.hid (Hle.out.of ba)
  replace Hyz := Lib.hid (Hyz.out.of ba)
  replace Hri := Lib.hid (Hri.out.of ba)
  replace He := Lib.hid (He.out.of ba)
  replace Hbe := Lib.hid (Hbe.out.of ba)
  replace Hbh := Lib.hid (Hbh.out.of ba)
  replace Ha := Lib.hid (Ha.out.of ba)
  replace HB := Lib.hid (HB.out.trans (ba.mono HB.out.size))
  clear hrd q1 q2 o nd lo b ba
  go_upto_region 19 with fail
  generalize hW : w13.alloc _ = w13a at Hx Hy Hz Hk Hxy Hle Hyz Hri He Hbe Hbh Ha HB Hb ⊢
  obtain ⟨gb, hg⟩ : ∃ g, g = w13.heap.size := ⟨_, rfl⟩
  rw [← hg] at Hb ⊢
  clear hW hg
  have d00 := Hb.out.b.cell 0 rfl
  have d01 := Hb.out.b.cell 1 rfl
  have d10 := Ha.out.b.cell 0 rfl
  have d11 := Ha.out.b.cell 1 rfl
  go_wp2_with fail
  refine (joinTables_any n _ _ _ _ _ _ (Nat.le_refl _) Hb.out.rd Ha.out.rd (turnT_ok KY.out) (turnT_ok KX.out) hn12).mono ?_
  rintro e w14 ⟨cs, f, rfl, o, nd, lo, b⟩
  clear d00 d01 d10 d11
  replace Hx := Lib.hid (Hx.out.of b)
  replace Hy := Lib.hid (Hy.out.of b)
  replace Hz := Lib.hid (Hz.out.of b)
  replace Hk := Lib.hid (Hk.out.of b)
  replace Hxy := Lib.hid (Hxy.out.of b)
  replace Hle := Lib.hid (Hle.out.of b)
  replace Hyz := Lib.hid (Hyz.out.of b)
  replace Hri := Lib.hid (Hri.out.of b)
  replace He := Lib.hid (He.out.of b)
  replace Hbe := Lib.hid (Hbe.out.of b)
  replace Hbh := Lib.hid (Hbh.out.of b)
  replace Ha := Lib.hid (Ha.out.of b)
  replace Hb := Lib.hid (Hb.out.of b)
  replace HB := Lib.hid (HB.out.trans (b.mono HB.out.size))
  dsimp only [id] at o ⊢
  rw [turn_joined KX.out KY.out] at o
  have hrd := tabE.rd_ow o
  obtain ⟨p1, p2, rfl, q1, q2⟩ := rd_Table hrd
  obtain ⟨laba, lnba, lcba, rfl⟩ := rd_slice q1
  obtain ⟨raba, rnba, rcba, rfl⟩ := rd_slice q2
  have Hba := Lib.hid (TbAt.new hrd)
  have ba := (Below.refl w14.heap.size w14).alloc (Nat.le_refl _) (.cells #[.slice laba lnba lcba, .slice raba rnba rcba] 27)
  replace Hx := Lib.hid (Hx.out.of ba)
  replace Hy := Lib.hid (Hy.out.of ba)
  replace Hz := Lib.hid (Hz.out.of ba)
  replace Hk := Lib.hid (Hk.out.of ba)
  replace Hxy := Lib.hid (Hxy.out.of ba)
  replace Hle := Lib.hid (Hle.out.of ba)
  replace Hyz := Lib.hid (Hyz.out.of ba)
  replace Hri := Lib.hid (Hri.out.of ba)
  replace He := Lib.hid (He.out.of ba)
  replace Hbe := Lib.hid (Hbe.out.of ba)
  replace Hbh := Lib.hid (Hbh.out.of ba)
  replace Ha := Lib.hid (Ha.out.of ba)
  replace Hb := Lib.hid (Hb.out.of ba)
  replace HB := Lib.hid (HB.out.trans (ba.mono HB.out.size))
  clear hrd q1 q2 o nd lo b ba
  go_upto_region 20 with fail
  generalize hW : w14.alloc _ = w14a at Hx Hy Hz Hk Hxy Hle Hyz Hri He Hbe Hbh Ha Hb HB Hba ⊢
  obtain ⟨gba, hg⟩ : ∃ g, g = w14.heap.size := ⟨_, rfl⟩
  rw [← hg] at Hba ⊢
  clear hW hg
  have d00 := Hxy.out.b.cell 0 rfl
  have d01 := Hxy.out.b.cell 1 rfl
  go_wp2_with fail
  refine (turnTable_any n _ _ _ _ (Nat.le_refl _) Hxy.out.rd (joined_ok KX.out KY.out) hn12).mono ?_
  rintro e w15 ⟨cs, f, rfl, o, nd, lo, b⟩
  clear d00 d01
  replace Hx := Lib.hid (Hx.out.of b)
  replace Hy := Lib.hid (Hy.out.of b)
  replace Hz := Lib.hid (Hz.out.of b)
  replace Hk := Lib.hid (Hk.out.of b)
  replace Hxy := Lib.hid (Hxy.out.of b)
  replace Hle := Lib.hid (Hle.out.of b)
  replace Hyz := Lib.hid (Hyz.out.of b)
  replace Hri := Lib.hid (Hri.out.of b)
  replace He := Lib.hid (He.out.of b)
  replace Hbe := Lib.hid (Hbe.out.of b)
  replace Hbh := Lib.hid (Hbh.out.of b)
  replace Ha := Lib.hid (Ha.out.of b)
  replace Hb := Lib.hid (Hb.out.of b)
  replace Hba := Lib.hid (Hba.out.of b)
  replace HB := Lib.hid (HB.out.trans (b.mono HB.out.size))
  dsimp only [id] at o ⊢
  have hrd := tabE.rd_ow o
  obtain ⟨p1, p2, rfl, q1, q2⟩ := rd_Table hrd
  obtain ⟨latu, lntu, lctu, rfl⟩ := rd_slice q1
  obtain ⟨ratu, rntu, rctu, rfl⟩ := rd_slice q2
  have Htu := Lib.hid (TbAt.new hrd)
  have ba := (Below.refl w15.heap.size w15).alloc (Nat.le_refl _) (.cells #[.slice latu lntu lctu, .slice ratu rntu rctu] 27)
  replace Hx := Lib.hid (Hx.out.of ba)
  replace Hy := Lib.hid (Hy.out.of ba)
  replace Hz := Lib.hid (Hz.out.of ba)
  replace Hk := Lib.hid (Hk.out.of ba)
  replace Hxy := Lib.hid (Hxy.out.of ba)
  replace Hle := Lib.hid (Hle.out.of ba)
  replace Hyz := Lib.hid (Hyz.out.of ba)
  replace Hri := Lib.hid (Hri.out.of ba)
  replace He := Lib.hid (He.out.of ba)
  replace Hbe := Lib.hid (Hbe.out.of ba)
  replace Hbh := Lib.hid (Hbh.out.of ba)
  replace Ha := Lib.hid (Ha.out.of ba)
  replace Hb := Lib.hid (Hb.out.of ba)
  replace Hba := Lib.hid (Hba.out.of ba)
  replace HB := Lib.hid (HB.out.trans (ba.mono HB.out.size))
  clear hrd q1 q2 o nd lo b ba
  go_upto_region 21 with fail
  generalize hW : w15.alloc _ = w15a at Hx Hy Hz Hk Hxy Hle Hyz Hri He Hbe Hbh Ha Hb Hba HB Htu ⊢
  obtain ⟨gtu, hg⟩ : ∃ g, g = w15.heap.size := ⟨_, rfl⟩
  rw [← hg] at Htu ⊢
  clear hW hg
  have d00 := Hk.out.b.cell 0 rfl
  have d01 := Hk.out.b.cell 1 rfl
  have d10 := Hx.out.b.cell 0 rfl
  have d11 := Hx.out.b.cell 1 rfl
  go_wp2_with fail
  refine (sameTable_yes X _ _ _ _ _ (Nat.le_refl _) (Nat.le_refl _) Hk.out.rd Hx.out.rd).mono ?_
  rintro e w16 ⟨rfl, b⟩
  clear d00 d01 d10 d11
  replace Hx := Lib.hid (Hx.out.of b)
  replace Hy := Lib.hid (Hy.out.of b)
  replace Hz := Lib.hid (Hz.out.of b)
  replace Hk := Lib.hid (Hk.out.of b)
  replace Hxy := Lib.hid (Hxy.out.of b)
  replace Hle := Lib.hid (Hle.out.of b)
  replace Hyz := Lib.hid (Hyz.out.of b)
  replace Hri := Lib.hid (Hri.out.of b)
  replace He := Lib.hid (He.out.of b)
  replace Hbe := Lib.hid (Hbe.out.of b)
  replace Hbh := Lib.hid (Hbh.out.of b)
  replace Ha := Lib.hid (Ha.out.of b)
  replace Hb := Lib.hid (Hb.out.of b)
  replace Hba := Lib.hid (Hba.out.of b)
  replace Htu := Lib.hid (Htu.out.of b)
  replace HB := Lib.hid (HB.out.trans (b.mono HB.out.size))
  clear b
  have d00 := Hle.out.b.cell 0 rfl
  have d01 := Hle.out.b.cell 1 rfl
  have d10 := Hri.out.b.cell 0 rfl
  have d11 := Hri.out.b.cell 1 rfl
  go_wp2_with fail
  refine (sameTable_yes (joinedT X (joinedT Y Z)) _ _ _ _ _ (Nat.le_refl _) (Nat.le_refl _) Hle.out.rd Hri.out.rd).mono ?_
  rintro e w17 ⟨rfl, b⟩
  clear d00 d01 d10 d11
  replace Hx := Lib.hid (Hx.out.of b)
  replace Hy := Lib.hid (Hy.out.of b)
  replace Hz := Lib.hid (Hz.out.of b)
  replace Hk := Lib.hid (Hk.out.of b)
  replace Hxy := Lib.hid (Hxy.out.of b)
  replace Hle := Lib.hid (Hle.out.of b)
  replace Hyz := Lib.hid (Hyz.out.of b)
  replace Hri := Lib.hid (Hri.out.of b)
  replace He := Lib.hid (He.out.of b)
  replace Hbe := Lib.hid (Hbe.out.of b)
  replace Hbh := Lib.hid (Hbh.out.of b)
  replace Ha := Lib.hid (Ha.out.of b)
  replace Hb := Lib.hid (Hb.out.of b)
  replace Hba := Lib.hid (Hba.out.of b)
  replace Htu := Lib.hid (Htu.out.of b)
  replace HB := Lib.hid (HB.out.trans (b.mono HB.out.size))
  clear b
  have d00 := Hbe.out.b.cell 0 rfl
  have d01 := Hbe.out.b.cell 1 rfl
  have d10 := Hx.out.b.cell 0 rfl
  have d11 := Hx.out.b.cell 1 rfl
  go_wp2_with fail
  refine (sameTable_yes X _ _ _ _ _ (Nat.le_refl _) (Nat.le_refl _) Hbe.out.rd Hx.out.rd).mono ?_
  rintro e w18 ⟨rfl, b⟩
  clear d00 d01 d10 d11
  replace Hx := Lib.hid (Hx.out.of b)
  replace Hy := Lib.hid (Hy.out.of b)
  replace Hz := Lib.hid (Hz.out.of b)
  replace Hk := Lib.hid (Hk.out.of b)
  replace Hxy := Lib.hid (Hxy.out.of b)
  replace Hle := Lib.hid (Hle.out.of b)
  replace Hyz := Lib.hid (Hyz.out.of b)
  replace Hri := Lib.hid (Hri.out.of b)
  replace He := Lib.hid (He.out.of b)
  replace Hbe := Lib.hid (Hbe.out.of b)
  replace Hbh := Lib.hid (Hbh.out.of b)
  replace Ha := Lib.hid (Ha.out.of b)
  replace Hb := Lib.hid (Hb.out.of b)
  replace Hba := Lib.hid (Hba.out.of b)
  replace Htu := Lib.hid (Htu.out.of b)
  replace HB := Lib.hid (HB.out.trans (b.mono HB.out.size))
  clear b
  have d00 := Hbh.out.b.cell 0 rfl
  have d01 := Hbh.out.b.cell 1 rfl
  have d10 := Hx.out.b.cell 0 rfl
  have d11 := Hx.out.b.cell 1 rfl
  go_wp2_with fail
  refine (sameTable_yes X _ _ _ _ _ (Nat.le_refl _) (Nat.le_refl _) Hbh.out.rd Hx.out.rd).mono ?_
  rintro e w19 ⟨rfl, b⟩
  clear d00 d01 d10 d11
  replace Hx := Lib.hid (Hx.out.of b)
  replace Hy := Lib.hid (Hy.out.of b)
  replace Hz := Lib.hid (Hz.out.of b)
  replace Hk := Lib.hid (Hk.out.of b)
  replace Hxy := Lib.hid (Hxy.out.of b)
  replace Hle := Lib.hid (Hle.out.of b)
  replace Hyz := Lib.hid (Hyz.out.of b)
  replace Hri := Lib.hid (Hri.out.of b)
  replace He := Lib.hid (He.out.of b)
  replace Hbe := Lib.hid (Hbe.out.of b)
  replace Hbh := Lib.hid (Hbh.out.of b)
  replace Ha := Lib.hid (Ha.out.of b)
  replace Hb := Lib.hid (Hb.out.of b)
  replace Hba := Lib.hid (Hba.out.of b)
  replace Htu := Lib.hid (Htu.out.of b)
  replace HB := Lib.hid (HB.out.trans (b.mono HB.out.size))
  clear b
  have d00 := Hba.out.b.cell 0 rfl
  have d01 := Hba.out.b.cell 1 rfl
  have d10 := Htu.out.b.cell 0 rfl
  have d11 := Htu.out.b.cell 1 rfl
  go_wp2_with fail
  refine (sameTable_yes (turnT (joinedT X Y)) _ _ _ _ _ (Nat.le_refl _) (Nat.le_refl _) Hba.out.rd Htu.out.rd).mono ?_
  rintro e w20 ⟨rfl, b⟩
  clear d00 d01 d10 d11
  replace Hx := Lib.hid (Hx.out.of b)
  replace Hy := Lib.hid (Hy.out.of b)
  replace Hz := Lib.hid (Hz.out.of b)
  replace Hk := Lib.hid (Hk.out.of b)
  replace Hxy := Lib.hid (Hxy.out.of b)
  replace Hle := Lib.hid (Hle.out.of b)
  replace Hyz := Lib.hid (Hyz.out.of b)
  replace Hri := Lib.hid (Hri.out.of b)
  replace He := Lib.hid (He.out.of b)
  replace Hbe := Lib.hid (Hbe.out.of b)
  replace Hbh := Lib.hid (Hbh.out.of b)
  replace Ha := Lib.hid (Ha.out.of b)
  replace Hb := Lib.hid (Hb.out.of b)
  replace Hba := Lib.hid (Hba.out.of b)
  replace Htu := Lib.hid (Htu.out.of b)
  replace HB := Lib.hid (HB.out.trans (b.mono HB.out.size))
  clear b
  have d00 := Hxy.out.b.cell 0 rfl
  have d01 := Hxy.out.b.cell 1 rfl
  go_wp2_with fail
  refine (validTable_yes n _ _ _ _ (Nat.le_refl _) Hxy.out.rd (joined_ok KX.out KY.out) hn12).mono ?_
  rintro e w21 ⟨rfl, b⟩
  clear d00 d01
  replace HB := Lib.hid (HB.out.trans (b.mono HB.out.size))
  go_wp2
  go_ret
  exact ⟨rfl, HB.out⟩

end Go.Proofs.YtbiagkbjhdidjaaDoor
