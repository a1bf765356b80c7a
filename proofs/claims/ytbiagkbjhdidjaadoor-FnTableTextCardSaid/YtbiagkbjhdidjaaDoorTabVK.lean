/-
  ValidTable of the program at a right table: it says yes.
-/
import Derived.Test.YtbiagkbjhdidjaaDoorExitK
import Derived.Test.YtbiagkbjhdidjaaDoorFuncsK
import Derived.Test.YtbiagkbjhdidjaaDoorOverK
namespace Go.Proofs.YtbiagkbjhdidjaaDoor
open Go.RowKit

theorem mem_getDE {α : Type} [Inhabited α] {l : List α} {k : Nat} (h : k < l.length) : l[k]?.getD default ∈ l := by
  rw [List.getElem?_eq_getElem h]; exact List.getElem_mem h

theorem rd_Table {w : World} {B : Nat} {cs : List Value} {x : Table} (h : tabE.rd w B cs x) : ∃ v1 v2, cs = [v1, v2] ∧ exitsE.rd w B [v1] x.left ∧ exitsE.rd w B [v2] x.right := by
  obtain ⟨c0, c1, rfl, h1, h2⟩ := h
  obtain ⟨v1, rfl⟩ := one_of (Enc.rd_len _ h1)
  obtain ⟨v2, rfl⟩ := one_of (Enc.rd_len _ h2)
  exact ⟨v1, v2, rfl, h1, h2⟩

set_option maxHeartbeats 1000000 in
theorem isExit_yes (n : Nat) (e : Ext) (w : World) (hn : n ≤ 100) (h : exitOk n e) : Calls Tryd.prog 27 #[.agg #[.int .i64 e.side, .int .i64 e.to], .int .i64 (n : Nat)] w (Gives (.bool true) w) := by
  obtain ⟨s, t⟩ := e
  unfold exitOk at h
  simp only at h ⊢
  have S := (Star.nil w).alloc (cs := #[.int .i64 s, .int .i64 t]) (ty := 53)
  go_enter Tryd.func27, Tryd.ntmps27
  rcases h with ⟨rfl, h2, h3⟩ | ⟨h1, h2, h3⟩
  · go_wp2_with fail
    refine (within_kis true t (-3) (-1) _ (within_eq ⟨h2, h3⟩)).mono ?_
    rintro e w1 ⟨rfl, rfl⟩
    go_wp2
    go_ret
    exact ⟨rfl, S.below⟩
  · have wn : IntKind.i64.wrap ((n : Int) - 1) = (n : Int) - 1 := IntWalk.i64_in _ ⟨by omega, by omega⟩
    have hw : within t 0 ((n : Int) - 1) = true := within_eq ⟨h2, by omega⟩
    have HW := Lib.hid (fun w' => within_kis true t 0 ((n : Int) - 1) w' hw)
    clear hw
    rcases h1 with rfl | rfl
    · go_wp2_with fail
      refine (HW.out _).mono ?_
      rintro e w1 ⟨rfl, rfl⟩
      go_wp2
      go_ret
      exact ⟨rfl, S.below⟩
    · go_wp2_with fail
      refine (HW.out _).mono ?_
      rintro e w1 ⟨rfl, rfl⟩
      go_wp2
      go_ret
      exact ⟨rfl, S.below⟩

set_option maxHeartbeats 1000000 in
theorem wrongC_no (n g : Nat) (e : Ext) (w : World) (hn : n ≤ 100) (h : exitOk n e) (hg : w.cell? ⟨g, 0, none⟩ = some (.int .i64 (n : Nat))) : Calls Tryd.prog 26 #[.agg #[.int .i64 e.side, .int .i64 e.to], .pointer (some ⟨g, 0, none⟩)] w (Gives (.bool false) w) := by
  have HI := Lib.hid (fun w' => isExit_yes n e w' hn h)
  obtain ⟨s, t⟩ := e
  simp only at HI ⊢
  have S := (Star.nil w).alloc (cs := #[.int .i64 s, .int .i64 t]) (ty := 53)
  have hg2 := fun o => cell_al hg o
  clear h
  go_enter Tryd.func26, Tryd.ntmps26
  go_wp2_with fail
  refine (HI.out _).mono ?_
  rintro e w1 ⟨rfl, b1⟩
  go_wp2
  go_ret
  exact ⟨rfl, (S.step b1).below⟩

set_option maxHeartbeats 1000000 in
theorem indexFunc_exits (v : Value) (l : List Ext) (B : Nat) (w : World) (f : FuncId) (y : Array Value) (h : exitsE.rd w B [v] l)
    (hcf : ∀ args w1, (callFunc f args).run Tryd.prog w1 = .ok (.enter f args) w1)
    (hf : ∀ z w1, z ∈ l → Below w.heap.size w w1 → Calls Tryd.prog f (#[.agg #[.int .i64 z.side, .int .i64 z.to]] ++ y) w1 (Gives (.bool false) w1)) :
    Calls Tryd.prog 41 #[v, .func (.func f) #[] y] w (Gives (.int .i64 (-1)) w) := by
  obtain ⟨a, cap, rfl, h1, h2, -, h4⟩ := rd_exitsE h
  obtain ⟨n, hn⟩ : ∃ n, n = l.length := ⟨_, rfl⟩
  rw [← hn] at h4 h1 ⊢
  have Hn := Lib.hid hn; clear hn h
  have H4 := Lib.hid h4; clear h4
  have Hf := Lib.hid hf; clear hf
  go_enter Tryd.func41, Tryd.ntmps41
  go_wp2
  go_loopw [4, 5, 8] (fun _ _ i wr => ∃ k : Nat, k ≤ n ∧ i = .int .i64 k ∧ Below w.heap.size w wr) (fun _ _ i _ => n - (intOf i).toNat)
  case atStart => exact ⟨0, by omega, rfl, Below.refl _ _⟩
  case round =>
    obtain ⟨k, hk, rfl, hB⟩ := hrel
    by_cases hlt : k < n
    · obtain ⟨b, o, rfl, -, ⟨hc0, hc1⟩, -⟩ := H4.out k hlt
      have c0 := (hB.cell (World.block_lt_of_cell? w _ hc0)).trans hc0
      have c1 := (hB.cell (World.block_lt_of_cell? w _ hc1)).trans hc1
      have hm := mem_getDE (l := l) (k := k) (by rw [← Hn.out]; exact hlt)
      have HM := Lib.hid hm
      clear hc0 hc1 hm
      generalize l[k]?.getD default = z at *
      go_wp2_with fail
      refine (Hf.out z _ HM.out hB).mono ?_
      rintro e w1 ⟨rfl, hbl⟩
      have B1 := Lib.hid (hB.trans (hbl.mono hB.size)); clear hB hbl
      go_wp2
      go_roundw
      case rel => exact ⟨k + 1, by omega, by go_num, B1.out⟩
      case measure => simp [intOf]; omega
    · obtain rfl : k = n := by omega
      go_wp2
      go_ret
      exact ⟨rfl, hB⟩

set_option maxHeartbeats 1000000 in
theorem containsFunc_exits (v : Value) (l : List Ext) (B : Nat) (w : World) (f : FuncId) (y : Array Value) (h : exitsE.rd w B [v] l)
    (hcf : ∀ args w1, (callFunc f args).run Tryd.prog w1 = .ok (.enter f args) w1)
    (hf : ∀ z w1, z ∈ l → Below w.heap.size w w1 → Calls Tryd.prog f (#[.agg #[.int .i64 z.side, .int .i64 z.to]] ++ y) w1 (Gives (.bool false) w1)) :
    Calls Tryd.prog 28 #[v, .func (.func f) #[] y] w (Gives (.bool false) w) := by
  obtain ⟨a, n, cap, rfl⟩ := rd_slice h
  have Hf := Lib.hid hf; clear hf
  have H := Lib.hid h; clear h
  have Hcf := Lib.hid hcf; clear hcf
  go_enter Tryd.func28, Tryd.ntmps28
  go_wp2_with fail
  refine (indexFunc_exits _ l B _ f y H.out Hcf.out Hf.out).mono ?_
  rintro e w1 ⟨rfl, hbl⟩
  go_wp2
  go_ret
  exact ⟨rfl, hbl⟩

theorem size_exits (v : Value) (l : List Ext) (B : Nat) (w : World) (h : exitsE.rd w B [v] l) : Calls Tryd.prog 25 #[v] w (Gives (.int .i64 l.length) w) := by
  have hl := len_le h
  obtain ⟨a, cap, he, h1, h2, -⟩ := h
  obtain rfl : v = .slice a l.length cap := by simpa using he
  clear he h1 h2
  go_enter Tryd.func25, Tryd.ntmps25
  go_wp2
  go_ret
  exact ⟨rfl, Below.refl _ _⟩

theorem size_exits_is (n : Nat) (v : Value) (l : List Ext) (B : Nat) (w : World) (hl : l.length = n) (h : exitsE.rd w B [v] l) : Calls Tryd.prog 25 #[v] w (Gives (.int .i64 (n : Nat)) w) := hl ▸ size_exits v l B w h

theorem callFunc_wrong : ∀ args w1, (callFunc 26 args).run Tryd.prog w1 = .ok (.enter 26 args) w1 := by
  intro args w
  have hf := Tryd.func26
  go_simp

set_option maxHeartbeats 4000000 in
set_option maxRecDepth 100000 in
theorem validTable_yes (n : Nat) (x : Table) (cs : List Value) (B : Nat) (w : World) (hB : B ≤ w.heap.size) (h : tabE.rd w B cs x) (hx : TabOk n x) (hn : n ≤ 12) : Calls Tryd.prog 13 #[.agg cs.toArray] w (Gives (.bool true) w) := by
  obtain ⟨v1, v2, rfl, h1, h2⟩ := rd_Table h
  obtain ⟨a1, n1, c1, rfl⟩ := rd_slice h1
  obtain ⟨a2, n2, c2, rfl⟩ := rd_slice h2
  have S := (Star.nil w).alloc (cs := #[.slice a1 n1 c1, .slice a2 n2 c2]) (ty := 27)
  have H1 := Lib.hid h1; have H2 := Lib.hid h2; have HX := Lib.hid hx
  have HN := Lib.hid hx.n1
  clear h h1 h2 hx
  go_enter Tryd.func13, Tryd.ntmps13
  go_wp2_with fail
  generalize hW : w.alloc _ = w0 at S ⊢
  clear hW
  refine (size_exits _ x.left B w0 (exitsE.rd_of (S.below.mono hB) H1.out)).mono ?_
  rintro e w1 ⟨rfl, b1⟩
  rw [HX.out.l]
  replace S := (S.step b1).alloc (cs := #[.int .i64 (n : Nat)]) (ty := 2)
  clear b1
  go_wp2
  generalize hW : w1.alloc _ = w2 at S ⊢
  clear hW
  obtain ⟨gn, hgn⟩ : ∃ g, g = w1.heap.size := ⟨_, rfl⟩
  rw [← hgn] at S ⊢
  clear hgn
  have x0 := (S.blk 1 rfl).cell 0 rfl
  have x1 := (S.blk 1 rfl).cell 1 rfl
  have y0 := (S.blk 0 rfl).cell 0 rfl
  have gl1 := (S.blk 1 rfl).lt
  have gl2 := (S.blk 0 rfl).lt
  have hov := cell_over w2
  have HS := Lib.hid S
  have hBo := fun u => Nat.le_trans (Nat.le_trans hB S.below.size) (below_over w2 u).size
  have HBO := Lib.hid hBo
  clear S hBo
  refine wp_region_over (by kernel_rfl) (by kernel_rfl) ?_
  repeat (go_big_quiet_step (first
    | (go_at_call 21; exact calls_over ((within_kis true (n : Int) 1 12 _ (within_eq ⟨by have := HN.out; omega, by omega⟩)).mono (by rintro e w' ⟨rfl, rfl⟩; exact ⟨rfl, Below.refl _ _⟩)))
    | (go_at_call 25; exact calls_over (size_exits_is n _ x.right B _ HX.out.r (exitsE.rd_of ((HS.out.below.mono hB).trans ((below_over w2 _).mono (Nat.le_trans hB HS.out.below.size))) H2.out)))
    | (go_at_call 28
       first
         | exact calls_over (containsFunc_exits _ x.left B _ _ _ (exitsE.rd_of ((HS.out.below.mono hB).trans ((below_over w2 _).mono (Nat.le_trans hB HS.out.below.size))) H1.out) callFunc_wrong (fun z w' hz hb => wrongC_no n gn z w' (by omega) (HX.out.le z hz) ((hb.cell (Nat.lt_of_lt_of_le gl2 (below_over w2 _).size)).trans ((hov _ _ _ gl2).trans y0))))
         | exact calls_over (containsFunc_exits _ x.right B _ _ _ (exitsE.rd_of ((HS.out.below.mono hB).trans ((below_over w2 _).mono (Nat.le_trans hB HS.out.below.size))) H2.out) callFunc_wrong (fun z w' hz hb => wrongC_no n gn z w' (by omega) (HX.out.re z hz) ((hb.cell (Nat.lt_of_lt_of_le gl2 (below_over w2 _).size)).trans ((hov _ _ _ gl2).trans y0)))))))
  refine wpQuiet_nil ?_
  intro w5 hw5
  go_wp2
  go_ret
  exact ⟨rfl, (HS.out.step hw5).below⟩

end Go.Proofs.YtbiagkbjhdidjaaDoor
