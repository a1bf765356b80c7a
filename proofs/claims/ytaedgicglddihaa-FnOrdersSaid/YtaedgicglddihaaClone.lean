/-
  The library's Clone at the program's types (written by a program of this claim's own, gen_clone.py).
-/
import Derived.Test.YtaedgicglddihaaApp
import Derived.Test.YtaedgicglddihaaLeafA
namespace Go.Proofs.Ytaedgicglddihaa
open Go.RowKit

theorem src_ints {w : World} {B : Nat} {v : Value} {l : List Int} (h : (intsE).rd w B [v] l) : ∃ css fys, OwAll intE w l css fys ∧ fys.flatten = [] ∧ SrcS w intE.size v l.length css.flatten := by
  refine src_of_rd (fun x => [.int .i64 x]) ?_ (fun x u hu => by simp at hu; subst hu; rfl) h
  intro x cs h
  exact ⟨h.1, ⟨⟨h.1 ▸ rfl, h.2⟩, rfl⟩⟩

set_option maxHeartbeats 400000 in
theorem clone_ints (v : Value) (l : List Int) (B : Nat) (w : World) (hB0 : B ≤ w.heap.size) (h : intsE.rd w B [v] l) (hl : l.length ≤ 1000000000000) : Calls Try.prog 21 #[v] w (Makes intsE id l w) := by
  have R := Lib.hid h
  obtain ⟨a, n, cap, rfl⟩ := rd_slice h
  have hnil : a = none → l = [] := by
    intro ha
    obtain ⟨a', cap', he, h1, h2, h3, h4⟩ := h
    have hc : a = a' := by have := he; simp at this; exact this.1
    exact List.eq_nil_of_length_eq_zero (by have := h3 (hc ▸ ha); omega)
  have hk := fun w => Lib.run_eql_slice_nil (P := Try.prog) w _ _ a n cap 0 0 Try.underlying22
  clear h
  rcases a with _ | ad
  · have hl0 : l = [] := hnil rfl
    subst hl0
    clear R hnil
    go_enter Try.func21, Try.ntmps21
    go_wp2
    go_ret
    exact ⟨_, [], rfl, ow_nil _ _ _, List.nodup_nil, (fun b hb => by cases hb), Below.refl _ _⟩
  · clear hnil
    obtain ⟨W, hW⟩ : ∃ W, W = w.alloc (.cells #[] 2) := ⟨_, rfl⟩
    have hb : Below w.heap.size w W := hW ▸ ((Below.refl _ w).alloc (Nat.le_refl _) _)
    have hown : intsE.ow W [.slice (some ⟨w.heap.size, 0, none⟩) 0 0] [] [w.heap.size] := ow_lit (E := intE) (l := []) (fun _ => undef) rfl (fun x hx => by cases hx) (hW ▸ Blk.new w #[] 2) (Nat.zero_le _)
    obtain ⟨css, fys, hys, hf, hs⟩ := src_ints (intsE.rd_of (hb.mono hB0) R.out)
    have HB := Lib.hid hb
    subst hW
    have hd : ([w.heap.size] ++ fys.flatten).Nodup := by rw [hf]; simp
    have HF := Lib.hid hf
    have hl' : ([] : List Int).length + l.length ≤ 1000000000000 := by simpa using hl
    clear hf hb
    go_enter Try.func21, Try.ntmps21
    go_wp2_with (at_builtin; refine appS_Int64S rfl _ _ rfl rfl hown hys hs hd hl' ?_; intro v' w' fp' k1 k2 k3 k4)
    obtain ⟨sa, sn, sc, rfl⟩ := ow_slice k1
    go_ret
    rw [List.nil_append] at k1
    have hlo : ∀ b, b ∈ [w.heap.size] → w.heap.size ≤ b := by intro b hb; have : b = w.heap.size := by simpa using hb
                                                              omega
    refine ⟨.slice sa sn sc, fp', rfl, k1, k2, fun b hb => ?_, HB.out.trans (k4.below hlo (by simp))⟩
    rcases k3 b hb with h | h | h
    · have : b = w.heap.size := by simpa using h
      omega
    · rw [HF.out] at h; cases h
    · have := h; simp at this; omega

theorem src_bools {w : World} {B : Nat} {v : Value} {l : List Bool} (h : (boolsE).rd w B [v] l) : ∃ css fys, OwAll boolE w l css fys ∧ fys.flatten = [] ∧ SrcS w boolE.size v l.length css.flatten := by
  refine src_of_rd (fun x => [.bool x]) ?_ (fun x u hu => by simp at hu; subst hu; rfl) h
  intro x cs h
  exact ⟨h, ⟨h ▸ rfl, rfl⟩⟩

theorem src_strs {w : World} {B : Nat} {v : Value} {l : List ByteArray} (h : (strsE).rd w B [v] l) : ∃ css fys, OwAll strE w l css fys ∧ fys.flatten = [] ∧ SrcS w strE.size v l.length css.flatten := by
  refine src_of_rd (fun x => [.string x]) ?_ (fun x u hu => by simp at hu; subst hu; rfl) h
  intro x cs h
  exact ⟨h.1, ⟨⟨h.1 ▸ rfl, h.2⟩, rfl⟩⟩

end Go.Proofs.Ytaedgicglddihaa
