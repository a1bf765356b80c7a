/-
  A move of the program's turner at a place of a word.
-/
import Derived.PlainAid
import Derived.Test.YtjochoghmpcgdaaDoorPackB
import Derived.Test.YtjochoghmpcgdaaDoorTurnOutK
import Derived.Test.YtjochoghmpcgdaaDoorCalmK
namespace Go.Proofs.YtjochoghmpcgdaaDoor
open Go.RowKit Go.PlainAid

theorem letterOf_r (c : Nat) (z : Int) (w : World) (hz : z = 97 + (c : Int)) (hc : c ≤ 158) : Calls Tryd.prog 49 #[.int .u8 z] w (Keeps (.int .i64 (c : Int)) w) := by
  subst hz
  have w1 : IntKind.u8.wrap (97 + (c : Int) - 97) = (c : Int) := by
    have e : 97 + (c : Int) - 97 = (c : Int) := by omega
    rw [e]
    exact IntWalk.u8_in _ ⟨by omega, by omega⟩
  have w2 : IntKind.i64.wrap (c : Int) = (c : Int) := IntWalk.i64_in _ ⟨by omega, by omega⟩
  go_enter Tryd.func49, Tryd.ntmps49
  go_wp2
  go_ret
  exact ⟨by simp, rfl⟩

theorem bt_get (X : ByteArray) (k : Nat) (h : k < X.size) : bt X k = ((X.data.toList[k]?.getD 97).toNat : Int) := by
  have hl : k < X.data.toList.length := by rw [Array.length_toList]; exact h
  unfold bt
  rw [dif_pos h, List.getElem?_eq_getElem hl]
  rfl

set_option maxHeartbeats 1000000 in
theorem below_k (c : Nat) (hc : c ≤ 3) (X : ByteArray) (hx : wordOk c X.data.toList) (hX : X.size ≤ 1000) (a : Nat) (w : World) :
    Calls Tryd.prog 51 #[.int .i64 (c : Nat), .string X, .int .i64 (a : Nat)] w (Keeps (.int .i64 (belowN c X.data.toList a : Nat)) w) := by
  have hl : X.data.toList.length = X.size := by rw [Array.length_toList]; rfl
  by_cases h0 : a = 0
  · have e : belowN c X.data.toList a = c := by unfold belowN; rw [if_pos h0]
    rw [e, h0]
    clear e hl hx
    go_enter Tryd.func51, Tryd.ntmps51
    go_wp2
    go_ret
    exact ⟨rfl, rfl⟩
  have tA : ((a : Int) == 0) = false := by simpa using h0
  by_cases h1 : X.size < a
  · have e : belowN c X.data.toList a = c + 1 := by unfold belowN; rw [if_neg h0, if_pos (by rw [hl]; exact h1)]
    rw [e]
    have h1' : (X.size : Int) < (a : Int) := by omega
    have wa : IntKind.i64.wrap ((c : Int) + 1) = (c : Int) + 1 := IntWalk.i64_in _ ⟨by omega, by omega⟩
    clear e hl hx
    go_enter Tryd.func51, Tryd.ntmps51
    go_wp2
    go_ret
    exact ⟨by simp, rfl⟩
  have e : belowN c X.data.toList a = (X.data.toList[a - 1]?.getD 97).toNat - 97 := by unfold belowN; rw [if_neg h0, if_neg (by rw [hl]; exact h1)]
  have hk : a - 1 < X.data.toList.length := by omega
  have hm := hx _ (List.getElem_mem hk)
  rw [List.getElem?_eq_getElem hk, Option.getD_some] at e
  have hbt : bt X (a - 1) = 97 + ((belowN c X.data.toList a : Nat) : Int) := by
    rw [bt_get X (a - 1) (by omega), List.getElem?_eq_getElem hk, Option.getD_some, e]
    omega
  have hlt : belowN c X.data.toList a ≤ 158 := by omega
  obtain ⟨k, rfl⟩ : ∃ k, a = k + 1 := ⟨a - 1, by omega⟩
  obtain ⟨y, hy⟩ : ∃ y, y = belowN c X.data.toList (k + 1) := ⟨_, rfl⟩
  rw [Nat.add_sub_cancel, ← hy] at hbt
  rw [← hy] at hlt ⊢
  have hlo := fun w' => Lib.hid (letterOf_r y (bt X k) w' hbt hlt)
  have hb := get_bt X
  have h1' : ¬ (X.size : Int) < ((k : Int) + 1) := by omega
  have wa : IntKind.i64.wrap (((k + 1 : Nat) : Int) - 1) = (k : Int) := by rw [show ((k + 1 : Nat) : Int) - 1 = (k : Int) from by omega]; exact IntWalk.i64_in _ ⟨by omega, by omega⟩
  have wb : IntKind.i64.wrap ((k : Int) + 1 - 1) = (k : Int) := by rw [show (k : Int) + 1 - 1 = (k : Int) from by omega]; exact IntWalk.i64_in _ ⟨by omega, by omega⟩
  have i1 : (0 : Int) ≤ (k : Int) := by omega
  have i2 : (k : Int) < (X.size : Int) := by omega
  have hkn : k < X.size := by omega
  clear e hl hx hk hm hy hbt hlt h0 h1
  go_enter Tryd.func51, Tryd.ntmps51
  go_wp2_with fail
  refine (hlo _).out.mono ?_
  rintro e w2 ⟨rfl, rfl⟩
  go_wp2
  go_ret
  exact ⟨rfl, rfl⟩

end Go.Proofs.YtjochoghmpcgdaaDoor
