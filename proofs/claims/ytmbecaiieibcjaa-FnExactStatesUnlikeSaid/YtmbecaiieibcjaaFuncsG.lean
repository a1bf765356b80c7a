/-
  Contracts of slices.IndexFunc and slices.ContainsFunc at slices of slices (written by a program of this claim's own, gen_funcs.py).
-/
import Derived.Test.YtmbecaiieibcjaaFuncs
namespace Go.Proofs.Ytmbecaiieibcjaa
open Go.RowKit

set_option maxHeartbeats 400000 in
theorem indexFunc_intss (v : Value) (l : List (List Int)) (B : Nat) (w : World) (f : FuncId) (x y : Array Value) (p : List Int → Bool) (hB0 : B ≤ w.heap.size) (h : intssE.rd w B [v] l)
    (hcf : ∀ args w1, (callFunc f args).run Try.prog w1 = .ok (.enter f args) w1)
    (hf : ∀ vk z w1, Below w.heap.size w w1 → intsE.rd w1 B [vk] z → Calls Try.prog f (x.push vk ++ y) w1 (Gives (.bool (p z)) w1)) :
    Calls Try.prog 62 #[v, .func (.func f) x y] w (Gives (.int .i64 (firstIdx p l)) w) := by
  obtain ⟨a, cap, rfl, h1, h2, -, h4⟩ := rd_slice1 rfl h
  obtain ⟨n, hn⟩ : ∃ n, n = l.length := ⟨_, rfl⟩
  rw [← hn] at h4 h1 ⊢
  have Hn := Lib.hid hn; clear hn h
  have H4 := Lib.hid h4; clear h4
  have Hf := Lib.hid hf; clear hf
  go_enter Try.func62, Try.ntmps62
  go_wp2
  go_loopw [4, 5, 8] (fun _ _ i wr => ∃ k : Nat, k ≤ n ∧ i = .int .i64 k ∧ Below w.heap.size w wr ∧ Hid (∀ i y, i < k → l[i]? = some y → p y = false)) (fun _ _ i _ => n - (intOf i).toNat)
  case atStart => exact ⟨0, by omega, rfl, Below.refl _ _, Lib.hid (fun i y hi => absurd hi (by omega))⟩
  case round =>
    obtain ⟨k, hk, rfl, hB, HE⟩ := hrel
    by_cases hlt : k < n
    · obtain ⟨b, o, vk, rfl, -, hc, hr⟩ := H4.out k hlt
      have c1 := (hB.cell (World.block_lt_of_cell? w _ hc)).trans hc
      have HR := Lib.hid (intsE.rd_of (hB.mono hB0) hr)
      clear hc hr
      have hkl := get_some default (l := l) (k := k) (by rw [← Hn.out]; exact hlt)
      have HK := Lib.hid hkl; clear hkl
      generalize l[k]?.getD default = z at *
      go_wp2_with fail
      refine (Hf.out _ z _ hB HR.out).mono ?_
      rintro e w1 ⟨rfl, hbl⟩
      have B1 := Lib.hid (hB.trans (hbl.mono hB.size)); clear hB hbl
      by_cases hp : p z = true
      · go_wp2
        go_ret
        refine ⟨?_, B1.out⟩
        rw [firstIdx_at p l k _ HK.out hp HE.out]
        rfl
      · rw [Bool.not_eq_true] at hp
        go_wp2
        go_roundw
        case rel =>
          refine ⟨k + 1, by omega, by go_num, B1.out, Lib.hid (fun i y hi hy => ?_)⟩
          by_cases e : i = k
          · subst e
            rw [HK.out] at hy
            cases hy
            exact hp
          · exact HE.out i y (by omega) hy
        case measure => simp [intOf]; omega
    · obtain rfl : k = n := by omega
      go_wp2
      go_ret
      refine ⟨?_, hB⟩
      rw [firstIdx_none p l (fun x hx => ?_)]
      · rfl
      · obtain ⟨i, hi, rfl⟩ := List.getElem_of_mem hx
        exact HE.out i _ (by rw [Hn.out]; exact hi) (List.getElem?_eq_getElem hi)

set_option maxHeartbeats 400000 in
theorem containsFunc_intss (v : Value) (l : List (List Int)) (B : Nat) (w : World) (f : FuncId) (x y : Array Value) (p : List Int → Bool) (hB0 : B ≤ w.heap.size) (h : intssE.rd w B [v] l)
    (hcf : ∀ args w1, (callFunc f args).run Try.prog w1 = .ok (.enter f args) w1)
    (hf : ∀ vk z w1, Below w.heap.size w w1 → intsE.rd w1 B [vk] z → Calls Try.prog f (x.push vk ++ y) w1 (Gives (.bool (p z)) w1)) :
    Calls Try.prog 52 #[v, .func (.func f) x y] w (Gives (.bool (l.any p)) w) := by
  obtain ⟨a, n, cap, rfl⟩ := rd_slice h
  have Hf := Lib.hid hf; clear hf
  have H := Lib.hid h; clear h
  have Hcf := Lib.hid hcf; clear hcf
  go_enter Try.func52, Try.ntmps52
  go_wp2_with fail
  refine (indexFunc_intss _ l B _ f x y p hB0 H.out Hcf.out Hf.out).mono ?_
  rintro e w1 ⟨rfl, hbl⟩
  have he := Lib.hid (firstIdx_any p l)
  generalize firstIdx p l = j at *
  go_wp2
  go_ret
  exact ⟨by rw [← he.out]; rfl, hbl⟩

end Go.Proofs.Ytmbecaiieibcjaa
