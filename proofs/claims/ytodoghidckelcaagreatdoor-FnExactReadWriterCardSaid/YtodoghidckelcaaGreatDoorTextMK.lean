/-
  Texts of the program: a builder that a call has made, and a move (written by a program of this claim's own, gen_text.py).
-/
import Derived.Test.YtodoghidckelcaaGreatDoorTextPK
import Derived.Test.YtodoghidckelcaaGreatDoorShelfBldK
import Derived.Test.YtodoghidckelcaaGreatDoorCalmK
namespace Go.Proofs.YtodoghidckelcaaGreatDoor
open Go.RowKit

/-- A builder in block b (from block B on) that holds these bytes. -/
def Bld (B b : Nat) (l : List UInt8) (w : World) : Prop := Lib.IsBuilder 70 5 B b (Lib.byteCells l) w

theorem Bld.new (w : World) : Bld w.heap.size w.heap.size [] (w.alloc (.cells #[.pointer none, .slice none 0 0] 70)) := Lib.fresh_isBuilder _ _ w

theorem bldAt_step {T e : TypeId} {B b : Nat} {p : Value} {bs : List Value} {w w' : World} (h : Lib.BuilderAt T e B b p bs w) (hb : Below w.heap.size w w') : Lib.BuilderAt T e B b p bs w' := by
  have hlt := Lib.BuilderAt.lt h
  obtain ⟨h1, v, h2, h3, h4⟩ := h
  refine ⟨h1, v, (hb.block b hlt).trans h2, ⟨h3.1, ?_⟩, h4⟩
  rcases h3.2 with hn | ⟨g, cap, cur, rfl, hg, hh, r⟩
  · exact .inl hn
  · exact .inr ⟨g, cap, cur, rfl, hg, (hb.block g (Array.getElem?_eq_some_iff.1 hh).1).trans hh, r⟩

theorem Bld.step {B b : Nat} {l : List UInt8} {w w' : World} (h : Bld B b l w) (hb : Below w.heap.size w w') : Bld B b l w' :=
  h.elim (fun x => .inl (bldAt_step x hb)) (fun x => .inr (bldAt_step x hb))

/-- What a write into a builder leaves. -/
def Wrote (B b : Nat) (l : List UInt8) (n : Nat) (w : World) (e : Ending) (w' : World) : Prop := e = .returned (.tuple #[.int .i64 n, .nilIface]) ∧ Bld B b l w' ∧ Below B w w'

theorem writeStr_any (B b : Nat) (l : List UInt8) (s : ByteArray) (w : World) (h : Bld B b l w) (hlen : l.length + s.size ≤ 1000000) (hB : B ≤ w.heap.size) :
    Calls Tryz.prog 39 #[.pointer (some ⟨b, 0, none⟩), .string s] w (Wrote B b (l ++ s.data.toList) s.size w) := by
  refine (Any.Builder_WriteString Tryz.lays166 Tryz.bldX B b (Lib.byteCells l) s w h (by rw [Lib.byteCells_length]; omega) hB).mono ?_
  rintro e w' ⟨rfl, h1, h2⟩
  refine ⟨rfl, .inr ?_, h2⟩
  rw [Lib.byteCells_append, ← Lib.strCells_eq]
  exact h1

theorem bldString_any (B b : Nat) (l : List UInt8) (w : World) (h : Bld B b l w) (hB : B ≤ w.heap.size) :
    Calls Tryz.prog 40 #[.pointer (some ⟨b, 0, none⟩)] w (fun e w' => e = .returned (.string ⟨l.toArray⟩) ∧ Below B w w') :=
  Any.Builder_String_any Tryz.lays169 Tryz.bldX9 B b l w h hB

set_option maxHeartbeats 2000000 in
theorem moveText_any (m : Move) (w : World) (hm : mvOk m) (hT : Pow10 w.heap.size w) : Calls Tryz.prog 60 #[.agg #[.int .i64 m.to, .int .i64 m.dir]] w (Gives (.string ⟨(moveL m).toArray⟩) w) := by
  obtain ⟨t, d⟩ := m
  have HT := Lib.hid hT
  clear hT
  dsimp only
  by_cases h1 : t = -1
  · subst h1
    have hr : moveL ⟨-1, d⟩ = [121, 101, 115] := rfl
    rw [hr]
    clear hr hm
    go_enter Tryz.func60, Tryz.ntmps60
    go_wp2
    go_ret
    exact ⟨rfl, (Below.refl _ _).alloc (Nat.le_refl _) _⟩
  by_cases h2 : t = -2
  · subst h2
    have hr : moveL ⟨-2, d⟩ = [110, 111] := rfl
    rw [hr]
    clear hr hm h1
    go_enter Tryz.func60, Tryz.ntmps60
    go_wp2
    go_ret
    exact ⟨rfl, (Below.refl _ _).alloc (Nat.le_refl _) _⟩
  rcases hm with h | h | ⟨⟨h3, h4⟩, h5, h6⟩
  · exact absurd h h1
  · exact absurd h h2
  dsimp only at h3 h4 h5 h6
  obtain ⟨n, rfl⟩ : ∃ n : Nat, t = n := ⟨t.toNat, by omega⟩
  have e1 : ((n : Int) == -1) = false := by simp
  have e2 : ((n : Int) == -2) = false := by simp
  have hn : n ≤ 99 := by omega
  clear h1 h2 h3 h4
  have hd : d = -1 ∨ d = 0 ∨ d = 1 := by omega
  clear h5 h6
  rcases hd with rfl | rfl | rfl
  · have hr : moveL ⟨(n : Int), -1⟩ = Lib.decDigits n ++ [60] := by
      unfold moveL
      rw [if_neg (show ¬ ((n : Int) = -1) by omega), if_neg (show ¬ ((n : Int) = -2) by omega)]
      rfl
    have HR := Lib.hid hr
    have z : (decB n).size ≤ 2 := decB_len 1 n (by omega)
    have hdc := fun x a => Lib.hid (decimal_any n (by omega) x a)
    obtain ⟨dn, hdn⟩ : ∃ x, x = decB n := ⟨_, rfl⟩
    rw [← hdn] at z hdc
    have HDN := Lib.hid hdn
    clear hr hdn
    go_enter Tryz.func60, Tryz.ntmps60
    go_upto_region 5 with fail
    generalize hW : w.alloc _ = w0
    obtain ⟨A0, B0⟩ := blk1 hW
    clear hW
    have c0 := A0.cell 0 rfl
    have c1 := A0.cell 1 rfl
    have g0 := A0.lt
    have hov := cell_over w0
    have hT0 := fun u => Lib.hid (HT.out.step (B0.trans ((below_over w0 u).mono B0.size))).here
    refine wp_region_over (by kernel_rfl) (by kernel_rfl) ?_
    repeat (go_big_quiet_step ((go_at_call 78; exact calls_over (hdc _ (hT0 _).out).out)))
    refine wpQuiet_nil ?_
    intro w1 b1
    go_wp2
    go_ret
    exact ⟨by rw [HR.out, HDN.out]; rfl, B0.trans (b1.mono B0.size)⟩
  · have hr : moveL ⟨(n : Int), 0⟩ = Lib.decDigits n ++ [61] := by
      unfold moveL
      rw [if_neg (show ¬ ((n : Int) = -1) by omega), if_neg (show ¬ ((n : Int) = -2) by omega)]
      rfl
    have HR := Lib.hid hr
    have z : (decB n).size ≤ 2 := decB_len 1 n (by omega)
    have hdc := fun x a => Lib.hid (decimal_any n (by omega) x a)
    obtain ⟨dn, hdn⟩ : ∃ x, x = decB n := ⟨_, rfl⟩
    rw [← hdn] at z hdc
    have HDN := Lib.hid hdn
    clear hr hdn
    go_enter Tryz.func60, Tryz.ntmps60
    go_upto_region 5 with fail
    generalize hW : w.alloc _ = w0
    obtain ⟨A0, B0⟩ := blk1 hW
    clear hW
    have c0 := A0.cell 0 rfl
    have c1 := A0.cell 1 rfl
    have g0 := A0.lt
    have hov := cell_over w0
    have hT0 := fun u => Lib.hid (HT.out.step (B0.trans ((below_over w0 u).mono B0.size))).here
    refine wp_region_over (by kernel_rfl) (by kernel_rfl) ?_
    repeat (go_big_quiet_step ((go_at_call 78; exact calls_over (hdc _ (hT0 _).out).out)))
    refine wpQuiet_nil ?_
    intro w1 b1
    go_wp2
    go_ret
    exact ⟨by rw [HR.out, HDN.out]; rfl, B0.trans (b1.mono B0.size)⟩
  · have hr : moveL ⟨(n : Int), 1⟩ = Lib.decDigits n ++ [62] := by
      unfold moveL
      rw [if_neg (show ¬ ((n : Int) = -1) by omega), if_neg (show ¬ ((n : Int) = -2) by omega)]
      rfl
    have HR := Lib.hid hr
    have z : (decB n).size ≤ 2 := decB_len 1 n (by omega)
    have hdc := fun x a => Lib.hid (decimal_any n (by omega) x a)
    obtain ⟨dn, hdn⟩ : ∃ x, x = decB n := ⟨_, rfl⟩
    rw [← hdn] at z hdc
    have HDN := Lib.hid hdn
    clear hr hdn
    go_enter Tryz.func60, Tryz.ntmps60
    go_upto_region 5 with fail
    generalize hW : w.alloc _ = w0
    obtain ⟨A0, B0⟩ := blk1 hW
    clear hW
    have c0 := A0.cell 0 rfl
    have c1 := A0.cell 1 rfl
    have g0 := A0.lt
    have hov := cell_over w0
    have hT0 := fun u => Lib.hid (HT.out.step (B0.trans ((below_over w0 u).mono B0.size))).here
    refine wp_region_over (by kernel_rfl) (by kernel_rfl) ?_
    repeat (go_big_quiet_step ((go_at_call 78; exact calls_over (hdc _ (hT0 _).out).out)))
    refine wpQuiet_nil ?_
    intro w1 b1
    go_wp2
    go_ret
    exact ⟨by rw [HR.out, HDN.out]; rfl, B0.trans (b1.mono B0.size)⟩

end Go.Proofs.YtodoghidckelcaaGreatDoor
