/-
  Texts cut at a byte, and joined by it, in plain words.
-/
import Derived.Lib.SplitLaws
import Derived.Lib.IndexMore
import Derived.Lib.Strings
import Derived.Test.YtfamhnogpcmbmaaGreatDoorDecK
namespace Go.Proofs.YtfamhnogpcmbmaaGreatDoor
open Go.RowKit

def mkB (l : List UInt8) : ByteArray := ⟨l.toArray⟩
theorem mkB_data (l : List UInt8) : (mkB l).data.toList = l := rfl
theorem mkB_size (l : List UInt8) : (mkB l).size = l.length := by show l.toArray.size = _; simp
theorem mkB_app (a b : List UInt8) : mkB (a ++ b) = mkB a ++ mkB b := by
  unfold mkB
  apply ByteArray.ext
  simp [ByteArray.data_append]
theorem mkB_of (b : ByteArray) : mkB b.data.toList = b := by cases b; rfl
theorem mkB_inj {a b : List UInt8} (h : mkB a = mkB b) : a = b := by rw [← mkB_data a, h, mkB_data]

theorem map_bytes (l : List ByteArray) (m : List (List UInt8)) (h : l.map (·.data.toList) = m) : l = m.map mkB := by
  rw [← h, List.map_map]
  refine (List.map_id l).symm.trans (List.map_congr_left fun x _ => (mkB_of x).symm)

theorem ixc_none (c : UInt8) : ∀ (x : List UInt8), c ∉ x → Lib.index x [c] = -1
  | [], _ => rfl
  | b :: l, h => by
    have hb : c ≠ b := fun e => h (e ▸ List.mem_cons_self ..)
    have ih := ixc_none c l (fun hm => h (List.mem_cons_of_mem _ hm))
    have hp : ([c] : List UInt8).isPrefixOf (b :: l) = false := by
      show (c == b && _) = false
      rw [show (c == b) = false from beq_eq_false_iff_ne.2 hb]; rfl
    rw [Lib.index, if_neg (by rw [hp]; decide), ih]
    rfl

theorem ixc_hit (c : UInt8) : ∀ (x r : List UInt8), c ∉ x → Lib.index (x ++ c :: r) [c] = (x.length : Int)
  | [], r, _ => by
    rw [List.nil_append, Lib.index, if_pos (by show (c == c && _) = true; simp)]
    rfl
  | b :: l, r, h => by
    have hb : c ≠ b := fun e => h (e ▸ List.mem_cons_self ..)
    have ih := ixc_hit c l r (fun hm => h (List.mem_cons_of_mem _ hm))
    have hp : ([c] : List UInt8).isPrefixOf (b :: (l ++ c :: r)) = false := by
      show (c == b && _) = false
      rw [show (c == b) = false from beq_eq_false_iff_ne.2 hb]; rfl
    rw [List.cons_append, Lib.index, if_neg (by rw [hp]; decide), ih, if_neg (by simp)]
    simp

theorem splitKc_none (c : UInt8) (x : List UInt8) (h : c ∉ x) (k : Nat) : Lib.splitK [c] 0 k x = [x] := by
  cases k with
  | zero => rfl
  | succ k => rw [Lib.splitK, if_pos (by rw [ixc_none c x h]; rfl)]

theorem splitKc_hit (c : UInt8) (x r : List UInt8) (h : c ∉ x) (k : Nat) : Lib.splitK [c] 0 (k + 1) (x ++ c :: r) = x :: Lib.splitK [c] 0 k r := by
  have hi := ixc_hit c x r h
  rw [Lib.splitK, if_neg (by rw [hi]; simp), hi]
  have e1 : (x ++ c :: r).take (((x.length : Int)).toNat + 0) = x := by simp
  have e2 : (x ++ c :: r).drop (((x.length : Int)).toNat + ([c] : List UInt8).length) = r := by
    rw [show x ++ c :: r = (x ++ [c]) ++ r by simp]
    exact List.drop_left' (by simp)
  rw [e1, e2]

/-- The library's Split at a byte. -/
def splitC (c : UInt8) (t : ByteArray) : List ByteArray := Lib.splitB ⟨#[c]⟩ 0 (Lib.countB t ⟨#[c]⟩) t

def joinC (c : UInt8) : List (List UInt8) → List UInt8
  | [] => []
  | [x] => x
  | x :: y :: r => x ++ c :: joinC c (y :: r)

theorem joinC_cons (c : UInt8) (x : List UInt8) (r : List (List UInt8)) (h : r ≠ []) : joinC c (x :: r) = x ++ c :: joinC c r := by
  cases r with
  | nil => exact absurd rfl h
  | cons y r => rfl

theorem splitK_join (c : UInt8) : ∀ (ws : List (List UInt8)), ws ≠ [] → (∀ w, w ∈ ws → c ∉ w) → Lib.splitK [c] 0 ((joinC c ws).count c) (joinC c ws) = ws
  | [], h, _ => absurd rfl h
  | [x], _, h => splitKc_none c x (h x (by simp)) _
  | x :: y :: r, _, h => by
    have hx := h x (by simp)
    rw [joinC_cons c x (y :: r) (by simp), List.count_append, List.count_eq_zero.2 hx, List.count_cons_self, Nat.zero_add, splitKc_hit c x _ hx, splitK_join c (y :: r) (by simp) (fun w hw => h w (by simp at hw ⊢; exact .inr hw))]

theorem splitC_join (c : UInt8) (ws : List (List UInt8)) (h0 : ws ≠ []) (h : ∀ w, w ∈ ws → c ∉ w) : splitC c (mkB (joinC c ws)) = ws.map mkB := by
  apply map_bytes
  unfold splitC Lib.countB
  rw [Lib.splitB_data]
  show Lib.splitK [c] 0 (Lib.count (joinC c ws) [c]) (joinC c ws) = ws
  rw [Lib.count_one]
  exact splitK_join c ws h0 h

theorem joinC_flat (c : UInt8) (x : List UInt8) (r : List (List UInt8)) : joinC c (x :: r) = x ++ r.flatMap (fun w => c :: w) := by
  induction r generalizing x with
  | nil => simp [joinC]
  | cons y r ih => rw [joinC_cons c x (y :: r) (by simp), ih y]; simp

theorem cut_hit (c : UInt8) (a b : List UInt8) (h : c ∉ a) : Lib.cut (a ++ c :: b) [c] = (a, b, true) := by
  unfold Lib.cut
  rw [ixc_hit c a b h, if_pos (by omega)]
  have e1 : (a ++ c :: b).take ((a.length : Int)).toNat = a := by simp
  have e2 : (a ++ c :: b).drop (((a.length : Int)).toNat + ([c] : List UInt8).length) = b := by
    rw [show a ++ c :: b = (a ++ [c]) ++ b by simp]
    exact List.drop_left' (by simp)
  rw [e1, e2]

theorem trim_hit (a p : List UInt8) : Lib.trimSuffix (a ++ p) p = a := by
  unfold Lib.trimSuffix
  rw [if_pos (by unfold Lib.hasSuffix; rw [List.isSuffixOf_iff_suffix]; exact List.suffix_append a p)]
  rw [List.length_append, Nat.add_sub_cancel]
  exact List.take_left' rfl

end Go.Proofs.YtfamhnogpcmbmaaGreatDoor
