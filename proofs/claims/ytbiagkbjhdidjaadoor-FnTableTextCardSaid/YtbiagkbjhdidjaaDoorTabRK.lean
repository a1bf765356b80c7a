/-
  A table's text read back by the program: readExits.
-/
import Derived.Test.YtbiagkbjhdidjaaDoorTabXK
import Derived.Test.YtbiagkbjhdidjaaDoorTabKK
import Derived.Test.YtbiagkbjhdidjaaDoorShelfReadK
import Derived.Test.YtbiagkbjhdidjaaDoorShelfSplitK
import Derived.Test.YtbiagkbjhdidjaaDoorShelfCutK
import Derived.Lib.SmallJoins
import Derived.PlainAid
import Derived.Deep.DeepCutAuto
namespace Go.Proofs.YtbiagkbjhdidjaaDoor
open Go.RowKit Go.PlainAid

theorem number_ok (s : ByteArray) (v : Int) (w : World) (hs : s.size ≤ 281474976710656) (h : Lib.parseIntB 64 s.data.toList = .ok v) : Calls Tryd.prog 37 #[.string s] w (Gives (.int .i64 v) w) := by
  have c := Lib.hid (Any.strconv_ParseInt_10_at64_ok Tryd.lays174 s (by omega) v h w)
  clear h
  go_enter Tryd.func37, Tryd.ntmps37
  go_wp2_with fail
  refine c.out.mono ?_
  rintro e w1 ⟨rfl, hw⟩
  have b : Below w.heap.size w w1 := by
    rcases hw with rfl | ⟨t, rfl⟩
    · exact Below.refl _ _
    · exact Go.Joins.below_bytesWorld _ _ _ _ (Nat.le_refl _)
  clear hw
  go_wp2
  go_ret
  exact ⟨rfl, b⟩

/-- The variable that the library's search looks at, whatever is done from block B on. -/
def MaxIsT (m : Int) (B : Nat) (w : World) : Prop := ∀ w', Below B w w' → w'.cell? ⟨Tryd.lays146_ren.g 1, 0, none⟩ = some (.int .i64 m)

theorem MaxIsT.step {m : Int} {B : Nat} {w w1 : World} (h : MaxIsT m B w) (hb : Below B w w1) : MaxIsT m B w1 := fun w' b => h w' (hb.trans b)

theorem index_ex (q : Nat) (x0 : ByteArray) (w : World) (hq : Blk w q (exKinds.map Value.string) 9) : Calls Tryd.prog 35 #[.slice (some ⟨q, 0, none⟩) 3 3, .string x0] w (Keeps (.int .i64 (Lib.idxOfS exKinds x0)) w) := by
  refine (Any.slices_Index_string Tryd.lays109 q 0 3 3 exKinds x0 w (by decide) (by decide) (fun j hj => ?_)).mono ?_
  · rw [Nat.zero_add]
    have hj3 : j < 3 := hj
    have := hq.cell j (v := .string (exKinds.getD j ByteArray.empty)) (by
      rw [List.getElem?_map, List.getD_eq_getElem?_getD, List.getElem?_eq_getElem hj]; rfl)
    exact this
  · rintro e w' ⟨rfl, rfl⟩
    exact ⟨rfl, rfl⟩

theorem exit_casesR {n : Nat} {e : Ext} (h : exitOk n e) : e.side = 0 ∨ e.side = -1 ∨ e.side = 1 := by unfold exitOk at h; omega

theorem drop_extract (l : List UInt8) : (mkB l).extract 1 (mkB l).size = mkB (l.drop 1) := by
  rw [← mkB_of ((mkB l).extract 1 (mkB l).size), Lib.extract_to_end]
  rfl

theorem prefix_is (l : List UInt8) (c : UInt8) (b : Bool) (w : World) (h : Lib.hasPrefix l [c] = b) : Calls Tryd.prog 36 #[.string (mkB l), .string ⟨#[c]⟩] w (Keeps (.bool b) w) := by
  refine (Any.strings_HasPrefix Tryd.lays99 (mkB l) ⟨#[c]⟩ w).mono ?_
  rintro e w' ⟨rfl, rfl⟩
  exact ⟨by rw [← h]; rfl, rfl⟩

set_option maxHeartbeats 8000000 in
set_option maxRecDepth 100000 in
theorem readExits_any (x0 : List UInt8) (hx0 : (32 : UInt8) ∉ x0) (hx1 : x0.length ≤ 5) (l : List Ext) (m : Int) (w : World) (hl : ∀ e, e ∈ l → exitOk 12 e) (hn : l.length ≤ 12) (hn1 : 1 ≤ l.length) (hM : MaxIsT m w.heap.size w) :
    Calls Tryd.prog 18 #[.string (mkB (x0 ++ exsT l))] w (Makes exitsE id l w) := by
  have hsp := line_split x0 hx0 l hl
  have hsz : (mkB (x0 ++ exsT l)).size ≤ 60 := by rw [mkB_size, List.length_append]; have := exsT_size l hl; omega
  obtain ⟨T, hT⟩ : ∃ T, T = mkB (x0 ++ exsT l) := ⟨_, rfl⟩
  rw [← hT] at hsp hsz ⊢
  have hlen : (splitC 32 T).length = Lib.countB T ⟨#[32]⟩ + 1 := Lib.splitB_all ⟨#[32]⟩ (by decide) 0 _ T rfl
  obtain ⟨n, hn'⟩ : ∃ n, n = l.length := ⟨_, rfl⟩
  have hcnt : Lib.countB T ⟨#[32]⟩ = n := by rw [hsp] at hlen; simp at hlen; omega
  have HSP := Lib.hid (fun (w' : World) (hm : w'.cell? ⟨Tryd.lays146_ren.g 1, 0, none⟩ = some (.int .i64 m)) => Any.strings_Split Tryd.lays146 (by kernel_rfl) T ⟨#[32]⟩ m w' (by omega) hm (by decide))
  have hsp2 : Lib.splitB ⟨#[32]⟩ 0 (Lib.countB T ⟨#[32]⟩) T = mkB x0 :: l.map fun e => mkB (exW e) := hsp
  rw [← hn'] at hn hn1
  have hn0 : ¬ n = 0 := by omega
  have HN := Lib.hid hn'; have HCN := Lib.hid hcnt; have HS2 := Lib.hid hsp2; have HL := Lib.hid hl; have HM := Lib.hid hM
  clear hT hsp hlen hcnt hsp2 hl hM hn' hx0 hx1
  have S := ((Star.nil w).alloc (cs := #[]) (ty := 53)).lit0 (α := Ext) (E := exitE)
  go_enter Tryd.func18, Tryd.ntmps18
  go_wp2_with fail
  generalize hW : w.alloc _ = w0 at S ⊢
  obtain ⟨g3, hg3⟩ : ∃ g, g = w.heap.size := ⟨_, rfl⟩
  rw [← hg3] at S ⊢
  clear hW hg3
  refine (HSP.out w0 (HM.out w0 S.below)).mono ?_
  rintro e w1 ⟨rfl, hw⟩
  rw [HCN.out]
  rw [HS2.out] at hw
  have S1 := S.alloc (cs := ((mkB x0 :: l.map fun e => mkB (exW e)).map Value.string).toArray) (ty := 9)
  rw [show w0.alloc (.cells ((mkB x0 :: l.map fun e => mkB (exW e)).map Value.string).toArray 9) = w1 from hw.symm] at S1
  obtain ⟨gs, hgs⟩ : ∃ g, g = w0.heap.size := ⟨_, rfl⟩
  rw [← hgs] at S1 ⊢
  replace S := S1.sel [1, 0]
  clear hw HSP S1 hgs HS2 HCN
  go_wp2
  go_loopw [3, 5, 6, 12] (fun vl _ _ vk wr => ∃ (k : Nat) (v : Value), k ≤ n ∧ vl = v ∧ vk = .int .i64 k ∧ Star w wr [oE exitsE [v] (l.take k), oB gs ((mkB x0 :: l.map fun e => mkB (exW e)).map Value.string) 9]) (fun _ _ _ vk _ => n - (intOf vk).toNat)
  case atStart => exact ⟨0, _, Nat.zero_le _, rfl, rfl, S⟩
  case round =>
    clear S
    obtain ⟨k, v, hk, rfl, rfl, S⟩ := hrel
    obtain ⟨va, vn, vc, rfl⟩ := S.slc 0 rfl
    by_cases hkn : k < n
    case neg =>
      obtain rfl : k = n := by omega
      have ht : l.take k = l := List.take_of_length_le (by rw [HN.out]; exact Nat.le_refl _)
      rw [ht] at S
      clear ht
      go_wp2
      go_ret
      exact S.done1
    have hkl : k < l.length := by rw [← HN.out]; exact hkn
    obtain ⟨e, he⟩ : ∃ e, e = l[k] := ⟨_, rfl⟩
    have hok : exitOk 12 e := by rw [he]; exact HL.out _ (List.getElem_mem hkl)
    have hcell : ((mkB x0 :: l.map fun e => mkB (exW e)).map Value.string)[k + 1]? = some (.string (mkB (exW e))) := by
      rw [he]; simp [List.getElem?_eq_getElem hkl]
    have x1 := (S.blk 1 rfl).cell (k + 1) hcell
    rw [Nat.add_comm] at x1
    have hst : l.take (k + 1) = l.take k ++ [e] := by rw [he]; exact List.take_succ_eq_append_getElem hkl
    have hlm : (l.take k).length ≤ 1000000000000 := by rw [List.length_take]; omega
    have hrw := readsW hok
    have hxs : 1 ≤ (exW e).length := by
      unfold exW
      split
      · simp
      · split
        · simp
        · split
          · simp
          · split <;> simp
    have HIX := Lib.hid (fun q w' hq => index_ex q (mkB (exW e)) w' hq)
    have HST := Lib.hid hst; have HOK := Lib.hid hok
    have i1 : (0 : Int) ≤ (k : Int) := by omega
    have i2 : (k : Int) < (n : Int) := by omega
    obtain ⟨s, t⟩ := e
    have hside := exit_casesR hok
    simp only at hside
    rcases hside with rfl | rfl | rfl
    · obtain ⟨r1, r2, r3⟩ := hrw.inside rfl
      obtain ⟨W, hW⟩ : ∃ W, W = exW ⟨0, t⟩ := ⟨_, rfl⟩
      rw [← hW] at HIX r1 r2 r3 x1
      obtain ⟨I, hI⟩ : ∃ I, I = Lib.idxOfS exKinds (mkB W) := ⟨_, rfl⟩
      rw [← hI] at HIX r1
      have hb := (exit_bounds HOK.out (by omega)).2
      simp only at r1 hb
      have wI : IntKind.i64.wrap (I - 3) = t := by rw [r1]; exact IntWalk.i64_in _ hb
      have HR1 := Lib.hid r2; have HR2 := Lib.hid r3
      clear hW hI r1 r2 r3 hrw hst hok he hcell hxs hb
      have SA := S.alloc (cs := #[.string ⟨#[111, 110]⟩, .string ⟨#[110, 111]⟩, .string ⟨#[121, 101, 115]⟩]) (ty := 9)
      go_wp2_with fail
      generalize hW2 : wr.alloc _ = w5 at SA ⊢
      obtain ⟨gx, hgx⟩ : ∃ g, g = wr.heap.size := ⟨_, rfl⟩
      rw [← hgx] at SA ⊢
      refine (HIX.out gx w5 (SA.blk 0 rfl)).mono ?_
      rintro e' w6 ⟨rfl, rfl⟩
      clear hW2 hgx
      have SX := SA.alloc (cs := #[.int .i64 0, .int .i64 t]) (ty := 53)
      go_wp2_with fail
      generalize hW3 : w5.alloc _ = w7 at SX ⊢
      obtain ⟨gy, hgy⟩ : ∃ g, g = w5.heap.size := ⟨_, rfl⟩
      rw [← hgy] at SX ⊢
      clear hW3 hgy
      refine (prefix_is W 60 false _ HR1.out).mono ?_
      rintro e' w8 ⟨rfl, rfl⟩
      go_wp2_with fail
      refine (prefix_is W 62 false _ HR2.out).mono ?_
      rintro e' w8 ⟨rfl, rfl⟩
      have z0 := (SX.blk 0 rfl).cell 0 rfl
      have z1 := (SX.blk 0 rfl).cell 1 rfl
      have SB := ((SX.alloc (cs := #[.int .i64 0, .int .i64 t]) (ty := 53)).exit HOK.out (by omega)).sel [4, 0, 5]
      go_wp2_with (at_builtin; refine st1_ExitS SB rfl rfl rfl rfl cell_a1 (one_mem2 rfl rfl) hlm ?_; intro ta tn tc w11 S11)
      go_roundw
      case rel => exact ⟨k + 1, _, by omega, rfl, by go_num, by rw [HST.out]; exact S11⟩
      case measure => simp [intOf]; omega
    · obtain ⟨r1, r2, r3, r4, r5⟩ := hrw.left rfl
      rw [r5] at HIX
      have hne := number_ok ((mkB (exW ⟨-1, t⟩)).extract 1 (mkB (exW ⟨-1, t⟩)).size) t
      have hdx := drop_extract (exW ⟨-1, t⟩)
      have HNU := Lib.hid (fun w' => number_ok ((mkB (exW ⟨-1, t⟩)).extract 1 (mkB (exW ⟨-1, t⟩)).size) t w' (by rw [hdx, mkB_size, List.length_drop]; have := hrw.small; omega) (by rw [hdx, mkB_data]; exact r3))
      have HR1 := Lib.hid r1; have HR2 := Lib.hid r2
      obtain ⟨W, hW⟩ : ∃ W, W = exW ⟨-1, t⟩ := ⟨_, rfl⟩
      rw [← hW] at hxs HIX HNU HR1 HR2 x1
      have hxs2 : 1 ≤ (mkB W).size := by rw [mkB_size]; exact hxs
      clear hne hdx hW r1 r2 r3 r4 r5 hrw hst hok he hcell hxs
      have SA := S.alloc (cs := #[.string ⟨#[111, 110]⟩, .string ⟨#[110, 111]⟩, .string ⟨#[121, 101, 115]⟩]) (ty := 9)
      go_wp2_with fail
      generalize hW2 : wr.alloc _ = w5 at SA ⊢
      obtain ⟨gx, hgx⟩ : ∃ g, g = wr.heap.size := ⟨_, rfl⟩
      rw [← hgx] at SA ⊢
      refine (HIX.out gx w5 (SA.blk 0 rfl)).mono ?_
      rintro e' w6 ⟨rfl, rfl⟩
      clear hW2 hgx
      have SX := SA.alloc (cs := #[.int .i64 0, .int .i64 (-4)]) (ty := 53)
      go_wp2_with fail
      generalize hW3 : w5.alloc _ = w7 at SX ⊢
      obtain ⟨gy, hgy⟩ : ∃ g, g = w5.heap.size := ⟨_, rfl⟩
      rw [← hgy] at SX ⊢
      clear hW3 hgy
      refine (prefix_is W 60 true _ HR1.out).mono ?_
      rintro e' w8 ⟨rfl, rfl⟩
      go_wp2_with fail
      refine (HNU.out _).mono ?_
      rintro e' w9 ⟨rfl, b9⟩
      replace SX := SX.step b9
      have y0 := (SX.blk 0 rfl).cell 0 rfl
      have y1 := (SX.blk 0 rfl).cell 1 rfl
      have yf := (SX.blk 0 rfl).free
      clear b9
      go_wp2_with fail
      generalize hW4 : (w9.setCell _ _).setCell _ _ = w10 at ⊢
      have SZ : Star w w10 _ := hW4 ▸ (SX.set 0 (.int .i64 (-1))).set 1 (.int .i64 t)
      clear hW4 y0 y1 yf
      have z0 := (SZ.blk 0 rfl).cell 0 rfl
      have z1 := (SZ.blk 0 rfl).cell 1 rfl
      refine (prefix_is W 62 false _ HR2.out).mono ?_
      rintro e' w8 ⟨rfl, rfl⟩
      have SB := ((SZ.alloc (cs := #[.int .i64 (-1), .int .i64 t]) (ty := 53)).exit HOK.out (by omega)).sel [4, 0, 5]
      go_wp2_with (at_builtin; refine st1_ExitS SB rfl rfl rfl rfl cell_a1 (one_mem2 rfl rfl) hlm ?_; intro ta tn tc w11 S11)
      go_roundw
      case rel => exact ⟨k + 1, _, by omega, rfl, by go_num, by rw [HST.out]; exact S11⟩
      case measure => simp [intOf]; omega
    · obtain ⟨r1, r2, r3, r4, r5⟩ := hrw.right rfl
      rw [r5] at HIX
      have hne := number_ok ((mkB (exW ⟨1, t⟩)).extract 1 (mkB (exW ⟨1, t⟩)).size) t
      have hdx := drop_extract (exW ⟨1, t⟩)
      have HNU := Lib.hid (fun w' => number_ok ((mkB (exW ⟨1, t⟩)).extract 1 (mkB (exW ⟨1, t⟩)).size) t w' (by rw [hdx, mkB_size, List.length_drop]; have := hrw.small; omega) (by rw [hdx, mkB_data]; exact r3))
      have HR1 := Lib.hid r1; have HR2 := Lib.hid r2
      obtain ⟨W, hW⟩ : ∃ W, W = exW ⟨1, t⟩ := ⟨_, rfl⟩
      rw [← hW] at hxs HIX HNU HR1 HR2 x1
      have hxs2 : 1 ≤ (mkB W).size := by rw [mkB_size]; exact hxs
      clear hne hdx hW r1 r2 r3 r4 r5 hrw hst hok he hcell hxs
      have SA := S.alloc (cs := #[.string ⟨#[111, 110]⟩, .string ⟨#[110, 111]⟩, .string ⟨#[121, 101, 115]⟩]) (ty := 9)
      go_wp2_with fail
      generalize hW2 : wr.alloc _ = w5 at SA ⊢
      obtain ⟨gx, hgx⟩ : ∃ g, g = wr.heap.size := ⟨_, rfl⟩
      rw [← hgx] at SA ⊢
      refine (HIX.out gx w5 (SA.blk 0 rfl)).mono ?_
      rintro e' w6 ⟨rfl, rfl⟩
      clear hW2 hgx
      have SX := SA.alloc (cs := #[.int .i64 0, .int .i64 (-4)]) (ty := 53)
      go_wp2_with fail
      generalize hW3 : w5.alloc _ = w7 at SX ⊢
      obtain ⟨gy, hgy⟩ : ∃ g, g = w5.heap.size := ⟨_, rfl⟩
      rw [← hgy] at SX ⊢
      clear hW3 hgy
      refine (prefix_is W 60 false _ HR1.out).mono ?_
      rintro e' w8 ⟨rfl, rfl⟩
      go_wp2_with fail
      refine (prefix_is W 62 true _ HR2.out).mono ?_
      rintro e' w8 ⟨rfl, rfl⟩
      go_wp2_with fail
      refine (HNU.out _).mono ?_
      rintro e' w9 ⟨rfl, b9⟩
      replace SX := SX.step b9
      have y0 := (SX.blk 0 rfl).cell 0 rfl
      have y1 := (SX.blk 0 rfl).cell 1 rfl
      have yf := (SX.blk 0 rfl).free
      clear b9
      go_upto_region 10 with fail
      generalize hW4 : (w9.setCell _ _).setCell _ _ = w10 at ⊢
      have SZ : Star w w10 _ := hW4 ▸ (SX.set 0 (.int .i64 1)).set 1 (.int .i64 t)
      clear hW4 y0 y1 yf
      have z0 := (SZ.blk 0 rfl).cell 0 rfl
      have z1 := (SZ.blk 0 rfl).cell 1 rfl
      have SB := ((SZ.alloc (cs := #[.int .i64 1, .int .i64 t]) (ty := 53)).exit HOK.out (by omega)).sel [4, 0, 5]
      go_wp2_with (at_builtin; refine st1_ExitS SB rfl rfl rfl rfl cell_a1 (one_mem2 rfl rfl) hlm ?_; intro ta tn tc w11 S11)
      go_roundw
      case rel => exact ⟨k + 1, _, by omega, rfl, by go_num, by rw [HST.out]; exact S11⟩
      case measure => simp [intOf]; omega

end Go.Proofs.YtbiagkbjhdidjaaDoor
