/-
  The library's 64-bit product at 1 and a count up to 60 (the cases printed by a program).
-/
import Derived.Test.YtjochoghmpcgdaaDoorCalmK
import Derived.Test.YtjochoghmpcgdaaDoorProg
import Derived.Test.YtjochoghmpcgdaaDoorPackA
namespace Go.Proofs.YtjochoghmpcgdaaDoor
open Go.RowKit

set_option maxHeartbeats 16000000 in
theorem mul64_b : ∀ (c : Nat), c ≤ 60 → ∀ w : World, Calls Tryd.prog 96 #[.int .u64 1, .int .u64 c] w (Gives (.tuple #[.int .u64 0, .int .u64 c]) w)
  | 0, _, w => by
    go_enter Tryd.func96, Tryd.ntmps96
    go_wp2
    exact bodyPost_ret (v := .tuple #[.int .u64 0, .int .u64 _]) (by simp [results, Tryd.results96, go_sem]; rfl) rfl ⟨rfl, Below.refl _ _⟩
  | 1, _, w => by
    go_enter Tryd.func96, Tryd.ntmps96
    go_wp2
    exact bodyPost_ret (v := .tuple #[.int .u64 0, .int .u64 _]) (by simp [results, Tryd.results96, go_sem]; rfl) rfl ⟨rfl, Below.refl _ _⟩
  | 2, _, w => by
    go_enter Tryd.func96, Tryd.ntmps96
    go_wp2
    exact bodyPost_ret (v := .tuple #[.int .u64 0, .int .u64 _]) (by simp [results, Tryd.results96, go_sem]; rfl) rfl ⟨rfl, Below.refl _ _⟩
  | 3, _, w => by
    go_enter Tryd.func96, Tryd.ntmps96
    go_wp2
    exact bodyPost_ret (v := .tuple #[.int .u64 0, .int .u64 _]) (by simp [results, Tryd.results96, go_sem]; rfl) rfl ⟨rfl, Below.refl _ _⟩
  | 4, _, w => by
    go_enter Tryd.func96, Tryd.ntmps96
    go_wp2
    exact bodyPost_ret (v := .tuple #[.int .u64 0, .int .u64 _]) (by simp [results, Tryd.results96, go_sem]; rfl) rfl ⟨rfl, Below.refl _ _⟩
  | 5, _, w => by
    go_enter Tryd.func96, Tryd.ntmps96
    go_wp2
    exact bodyPost_ret (v := .tuple #[.int .u64 0, .int .u64 _]) (by simp [results, Tryd.results96, go_sem]; rfl) rfl ⟨rfl, Below.refl _ _⟩
  | 6, _, w => by
    go_enter Tryd.func96, Tryd.ntmps96
    go_wp2
    exact bodyPost_ret (v := .tuple #[.int .u64 0, .int .u64 _]) (by simp [results, Tryd.results96, go_sem]; rfl) rfl ⟨rfl, Below.refl _ _⟩
  | 7, _, w => by
    go_enter Tryd.func96, Tryd.ntmps96
    go_wp2
    exact bodyPost_ret (v := .tuple #[.int .u64 0, .int .u64 _]) (by simp [results, Tryd.results96, go_sem]; rfl) rfl ⟨rfl, Below.refl _ _⟩
  | 8, _, w => by
    go_enter Tryd.func96, Tryd.ntmps96
    go_wp2
    exact bodyPost_ret (v := .tuple #[.int .u64 0, .int .u64 _]) (by simp [results, Tryd.results96, go_sem]; rfl) rfl ⟨rfl, Below.refl _ _⟩
  | 9, _, w => by
    go_enter Tryd.func96, Tryd.ntmps96
    go_wp2
    exact bodyPost_ret (v := .tuple #[.int .u64 0, .int .u64 _]) (by simp [results, Tryd.results96, go_sem]; rfl) rfl ⟨rfl, Below.refl _ _⟩
  | 10, _, w => by
    go_enter Tryd.func96, Tryd.ntmps96
    go_wp2
    exact bodyPost_ret (v := .tuple #[.int .u64 0, .int .u64 _]) (by simp [results, Tryd.results96, go_sem]; rfl) rfl ⟨rfl, Below.refl _ _⟩
  | 11, _, w => by
    go_enter Tryd.func96, Tryd.ntmps96
    go_wp2
    exact bodyPost_ret (v := .tuple #[.int .u64 0, .int .u64 _]) (by simp [results, Tryd.results96, go_sem]; rfl) rfl ⟨rfl, Below.refl _ _⟩
  | 12, _, w => by
    go_enter Tryd.func96, Tryd.ntmps96
    go_wp2
    exact bodyPost_ret (v := .tuple #[.int .u64 0, .int .u64 _]) (by simp [results, Tryd.results96, go_sem]; rfl) rfl ⟨rfl, Below.refl _ _⟩
  | 13, _, w => by
    go_enter Tryd.func96, Tryd.ntmps96
    go_wp2
    exact bodyPost_ret (v := .tuple #[.int .u64 0, .int .u64 _]) (by simp [results, Tryd.results96, go_sem]; rfl) rfl ⟨rfl, Below.refl _ _⟩
  | 14, _, w => by
    go_enter Tryd.func96, Tryd.ntmps96
    go_wp2
    exact bodyPost_ret (v := .tuple #[.int .u64 0, .int .u64 _]) (by simp [results, Tryd.results96, go_sem]; rfl) rfl ⟨rfl, Below.refl _ _⟩
  | 15, _, w => by
    go_enter Tryd.func96, Tryd.ntmps96
    go_wp2
    exact bodyPost_ret (v := .tuple #[.int .u64 0, .int .u64 _]) (by simp [results, Tryd.results96, go_sem]; rfl) rfl ⟨rfl, Below.refl _ _⟩
  | 16, _, w => by
    go_enter Tryd.func96, Tryd.ntmps96
    go_wp2
    exact bodyPost_ret (v := .tuple #[.int .u64 0, .int .u64 _]) (by simp [results, Tryd.results96, go_sem]; rfl) rfl ⟨rfl, Below.refl _ _⟩
  | 17, _, w => by
    go_enter Tryd.func96, Tryd.ntmps96
    go_wp2
    exact bodyPost_ret (v := .tuple #[.int .u64 0, .int .u64 _]) (by simp [results, Tryd.results96, go_sem]; rfl) rfl ⟨rfl, Below.refl _ _⟩
  | 18, _, w => by
    go_enter Tryd.func96, Tryd.ntmps96
    go_wp2
    exact bodyPost_ret (v := .tuple #[.int .u64 0, .int .u64 _]) (by simp [results, Tryd.results96, go_sem]; rfl) rfl ⟨rfl, Below.refl _ _⟩
  | 19, _, w => by
    go_enter Tryd.func96, Tryd.ntmps96
    go_wp2
    exact bodyPost_ret (v := .tuple #[.int .u64 0, .int .u64 _]) (by simp [results, Tryd.results96, go_sem]; rfl) rfl ⟨rfl, Below.refl _ _⟩
  | 20, _, w => by
    go_enter Tryd.func96, Tryd.ntmps96
    go_wp2
    exact bodyPost_ret (v := .tuple #[.int .u64 0, .int .u64 _]) (by simp [results, Tryd.results96, go_sem]; rfl) rfl ⟨rfl, Below.refl _ _⟩
  | 21, _, w => by
    go_enter Tryd.func96, Tryd.ntmps96
    go_wp2
    exact bodyPost_ret (v := .tuple #[.int .u64 0, .int .u64 _]) (by simp [results, Tryd.results96, go_sem]; rfl) rfl ⟨rfl, Below.refl _ _⟩
  | 22, _, w => by
    go_enter Tryd.func96, Tryd.ntmps96
    go_wp2
    exact bodyPost_ret (v := .tuple #[.int .u64 0, .int .u64 _]) (by simp [results, Tryd.results96, go_sem]; rfl) rfl ⟨rfl, Below.refl _ _⟩
  | 23, _, w => by
    go_enter Tryd.func96, Tryd.ntmps96
    go_wp2
    exact bodyPost_ret (v := .tuple #[.int .u64 0, .int .u64 _]) (by simp [results, Tryd.results96, go_sem]; rfl) rfl ⟨rfl, Below.refl _ _⟩
  | 24, _, w => by
    go_enter Tryd.func96, Tryd.ntmps96
    go_wp2
    exact bodyPost_ret (v := .tuple #[.int .u64 0, .int .u64 _]) (by simp [results, Tryd.results96, go_sem]; rfl) rfl ⟨rfl, Below.refl _ _⟩
  | 25, _, w => by
    go_enter Tryd.func96, Tryd.ntmps96
    go_wp2
    exact bodyPost_ret (v := .tuple #[.int .u64 0, .int .u64 _]) (by simp [results, Tryd.results96, go_sem]; rfl) rfl ⟨rfl, Below.refl _ _⟩
  | 26, _, w => by
    go_enter Tryd.func96, Tryd.ntmps96
    go_wp2
    exact bodyPost_ret (v := .tuple #[.int .u64 0, .int .u64 _]) (by simp [results, Tryd.results96, go_sem]; rfl) rfl ⟨rfl, Below.refl _ _⟩
  | 27, _, w => by
    go_enter Tryd.func96, Tryd.ntmps96
    go_wp2
    exact bodyPost_ret (v := .tuple #[.int .u64 0, .int .u64 _]) (by simp [results, Tryd.results96, go_sem]; rfl) rfl ⟨rfl, Below.refl _ _⟩
  | 28, _, w => by
    go_enter Tryd.func96, Tryd.ntmps96
    go_wp2
    exact bodyPost_ret (v := .tuple #[.int .u64 0, .int .u64 _]) (by simp [results, Tryd.results96, go_sem]; rfl) rfl ⟨rfl, Below.refl _ _⟩
  | 29, _, w => by
    go_enter Tryd.func96, Tryd.ntmps96
    go_wp2
    exact bodyPost_ret (v := .tuple #[.int .u64 0, .int .u64 _]) (by simp [results, Tryd.results96, go_sem]; rfl) rfl ⟨rfl, Below.refl _ _⟩
  | 30, _, w => by
    go_enter Tryd.func96, Tryd.ntmps96
    go_wp2
    exact bodyPost_ret (v := .tuple #[.int .u64 0, .int .u64 _]) (by simp [results, Tryd.results96, go_sem]; rfl) rfl ⟨rfl, Below.refl _ _⟩
  | 31, _, w => by
    go_enter Tryd.func96, Tryd.ntmps96
    go_wp2
    exact bodyPost_ret (v := .tuple #[.int .u64 0, .int .u64 _]) (by simp [results, Tryd.results96, go_sem]; rfl) rfl ⟨rfl, Below.refl _ _⟩
  | 32, _, w => by
    go_enter Tryd.func96, Tryd.ntmps96
    go_wp2
    exact bodyPost_ret (v := .tuple #[.int .u64 0, .int .u64 _]) (by simp [results, Tryd.results96, go_sem]; rfl) rfl ⟨rfl, Below.refl _ _⟩
  | 33, _, w => by
    go_enter Tryd.func96, Tryd.ntmps96
    go_wp2
    exact bodyPost_ret (v := .tuple #[.int .u64 0, .int .u64 _]) (by simp [results, Tryd.results96, go_sem]; rfl) rfl ⟨rfl, Below.refl _ _⟩
  | 34, _, w => by
    go_enter Tryd.func96, Tryd.ntmps96
    go_wp2
    exact bodyPost_ret (v := .tuple #[.int .u64 0, .int .u64 _]) (by simp [results, Tryd.results96, go_sem]; rfl) rfl ⟨rfl, Below.refl _ _⟩
  | 35, _, w => by
    go_enter Tryd.func96, Tryd.ntmps96
    go_wp2
    exact bodyPost_ret (v := .tuple #[.int .u64 0, .int .u64 _]) (by simp [results, Tryd.results96, go_sem]; rfl) rfl ⟨rfl, Below.refl _ _⟩
  | 36, _, w => by
    go_enter Tryd.func96, Tryd.ntmps96
    go_wp2
    exact bodyPost_ret (v := .tuple #[.int .u64 0, .int .u64 _]) (by simp [results, Tryd.results96, go_sem]; rfl) rfl ⟨rfl, Below.refl _ _⟩
  | 37, _, w => by
    go_enter Tryd.func96, Tryd.ntmps96
    go_wp2
    exact bodyPost_ret (v := .tuple #[.int .u64 0, .int .u64 _]) (by simp [results, Tryd.results96, go_sem]; rfl) rfl ⟨rfl, Below.refl _ _⟩
  | 38, _, w => by
    go_enter Tryd.func96, Tryd.ntmps96
    go_wp2
    exact bodyPost_ret (v := .tuple #[.int .u64 0, .int .u64 _]) (by simp [results, Tryd.results96, go_sem]; rfl) rfl ⟨rfl, Below.refl _ _⟩
  | 39, _, w => by
    go_enter Tryd.func96, Tryd.ntmps96
    go_wp2
    exact bodyPost_ret (v := .tuple #[.int .u64 0, .int .u64 _]) (by simp [results, Tryd.results96, go_sem]; rfl) rfl ⟨rfl, Below.refl _ _⟩
  | 40, _, w => by
    go_enter Tryd.func96, Tryd.ntmps96
    go_wp2
    exact bodyPost_ret (v := .tuple #[.int .u64 0, .int .u64 _]) (by simp [results, Tryd.results96, go_sem]; rfl) rfl ⟨rfl, Below.refl _ _⟩
  | 41, _, w => by
    go_enter Tryd.func96, Tryd.ntmps96
    go_wp2
    exact bodyPost_ret (v := .tuple #[.int .u64 0, .int .u64 _]) (by simp [results, Tryd.results96, go_sem]; rfl) rfl ⟨rfl, Below.refl _ _⟩
  | 42, _, w => by
    go_enter Tryd.func96, Tryd.ntmps96
    go_wp2
    exact bodyPost_ret (v := .tuple #[.int .u64 0, .int .u64 _]) (by simp [results, Tryd.results96, go_sem]; rfl) rfl ⟨rfl, Below.refl _ _⟩
  | 43, _, w => by
    go_enter Tryd.func96, Tryd.ntmps96
    go_wp2
    exact bodyPost_ret (v := .tuple #[.int .u64 0, .int .u64 _]) (by simp [results, Tryd.results96, go_sem]; rfl) rfl ⟨rfl, Below.refl _ _⟩
  | 44, _, w => by
    go_enter Tryd.func96, Tryd.ntmps96
    go_wp2
    exact bodyPost_ret (v := .tuple #[.int .u64 0, .int .u64 _]) (by simp [results, Tryd.results96, go_sem]; rfl) rfl ⟨rfl, Below.refl _ _⟩
  | 45, _, w => by
    go_enter Tryd.func96, Tryd.ntmps96
    go_wp2
    exact bodyPost_ret (v := .tuple #[.int .u64 0, .int .u64 _]) (by simp [results, Tryd.results96, go_sem]; rfl) rfl ⟨rfl, Below.refl _ _⟩
  | 46, _, w => by
    go_enter Tryd.func96, Tryd.ntmps96
    go_wp2
    exact bodyPost_ret (v := .tuple #[.int .u64 0, .int .u64 _]) (by simp [results, Tryd.results96, go_sem]; rfl) rfl ⟨rfl, Below.refl _ _⟩
  | 47, _, w => by
    go_enter Tryd.func96, Tryd.ntmps96
    go_wp2
    exact bodyPost_ret (v := .tuple #[.int .u64 0, .int .u64 _]) (by simp [results, Tryd.results96, go_sem]; rfl) rfl ⟨rfl, Below.refl _ _⟩
  | 48, _, w => by
    go_enter Tryd.func96, Tryd.ntmps96
    go_wp2
    exact bodyPost_ret (v := .tuple #[.int .u64 0, .int .u64 _]) (by simp [results, Tryd.results96, go_sem]; rfl) rfl ⟨rfl, Below.refl _ _⟩
  | 49, _, w => by
    go_enter Tryd.func96, Tryd.ntmps96
    go_wp2
    exact bodyPost_ret (v := .tuple #[.int .u64 0, .int .u64 _]) (by simp [results, Tryd.results96, go_sem]; rfl) rfl ⟨rfl, Below.refl _ _⟩
  | 50, _, w => by
    go_enter Tryd.func96, Tryd.ntmps96
    go_wp2
    exact bodyPost_ret (v := .tuple #[.int .u64 0, .int .u64 _]) (by simp [results, Tryd.results96, go_sem]; rfl) rfl ⟨rfl, Below.refl _ _⟩
  | 51, _, w => by
    go_enter Tryd.func96, Tryd.ntmps96
    go_wp2
    exact bodyPost_ret (v := .tuple #[.int .u64 0, .int .u64 _]) (by simp [results, Tryd.results96, go_sem]; rfl) rfl ⟨rfl, Below.refl _ _⟩
  | 52, _, w => by
    go_enter Tryd.func96, Tryd.ntmps96
    go_wp2
    exact bodyPost_ret (v := .tuple #[.int .u64 0, .int .u64 _]) (by simp [results, Tryd.results96, go_sem]; rfl) rfl ⟨rfl, Below.refl _ _⟩
  | 53, _, w => by
    go_enter Tryd.func96, Tryd.ntmps96
    go_wp2
    exact bodyPost_ret (v := .tuple #[.int .u64 0, .int .u64 _]) (by simp [results, Tryd.results96, go_sem]; rfl) rfl ⟨rfl, Below.refl _ _⟩
  | 54, _, w => by
    go_enter Tryd.func96, Tryd.ntmps96
    go_wp2
    exact bodyPost_ret (v := .tuple #[.int .u64 0, .int .u64 _]) (by simp [results, Tryd.results96, go_sem]; rfl) rfl ⟨rfl, Below.refl _ _⟩
  | 55, _, w => by
    go_enter Tryd.func96, Tryd.ntmps96
    go_wp2
    exact bodyPost_ret (v := .tuple #[.int .u64 0, .int .u64 _]) (by simp [results, Tryd.results96, go_sem]; rfl) rfl ⟨rfl, Below.refl _ _⟩
  | 56, _, w => by
    go_enter Tryd.func96, Tryd.ntmps96
    go_wp2
    exact bodyPost_ret (v := .tuple #[.int .u64 0, .int .u64 _]) (by simp [results, Tryd.results96, go_sem]; rfl) rfl ⟨rfl, Below.refl _ _⟩
  | 57, _, w => by
    go_enter Tryd.func96, Tryd.ntmps96
    go_wp2
    exact bodyPost_ret (v := .tuple #[.int .u64 0, .int .u64 _]) (by simp [results, Tryd.results96, go_sem]; rfl) rfl ⟨rfl, Below.refl _ _⟩
  | 58, _, w => by
    go_enter Tryd.func96, Tryd.ntmps96
    go_wp2
    exact bodyPost_ret (v := .tuple #[.int .u64 0, .int .u64 _]) (by simp [results, Tryd.results96, go_sem]; rfl) rfl ⟨rfl, Below.refl _ _⟩
  | 59, _, w => by
    go_enter Tryd.func96, Tryd.ntmps96
    go_wp2
    exact bodyPost_ret (v := .tuple #[.int .u64 0, .int .u64 _]) (by simp [results, Tryd.results96, go_sem]; rfl) rfl ⟨rfl, Below.refl _ _⟩
  | 60, _, w => by
    go_enter Tryd.func96, Tryd.ntmps96
    go_wp2
    exact bodyPost_ret (v := .tuple #[.int .u64 0, .int .u64 _]) (by simp [results, Tryd.results96, go_sem]; rfl) rfl ⟨rfl, Below.refl _ _⟩
  | c + 61, h, _ => absurd h (by omega)

set_option maxHeartbeats 16000000 in
theorem mul_b : ∀ (c : Nat), c ≤ 60 → ∀ w : World, Calls Tryd.prog 76 #[.int .u64 1, .int .u64 c] w (Gives (.tuple #[.int .u64 0, .int .u64 c]) w)
  | 0, hc, w => by
    have h := mul64_b 0 hc w
    go_enter Tryd.func76, Tryd.ntmps76
    go_wp2_with fail
    refine h.mono ?_
    rintro e w1 ⟨rfl, b⟩
    go_wp2
    exact bodyPost_ret (v := .tuple #[.int .u64 0, .int .u64 _]) (by simp [results, Tryd.results76, go_sem]) rfl ⟨rfl, b⟩
  | 1, hc, w => by
    have h := mul64_b 1 hc w
    go_enter Tryd.func76, Tryd.ntmps76
    go_wp2_with fail
    refine h.mono ?_
    rintro e w1 ⟨rfl, b⟩
    go_wp2
    exact bodyPost_ret (v := .tuple #[.int .u64 0, .int .u64 _]) (by simp [results, Tryd.results76, go_sem]) rfl ⟨rfl, b⟩
  | 2, hc, w => by
    have h := mul64_b 2 hc w
    go_enter Tryd.func76, Tryd.ntmps76
    go_wp2_with fail
    refine h.mono ?_
    rintro e w1 ⟨rfl, b⟩
    go_wp2
    exact bodyPost_ret (v := .tuple #[.int .u64 0, .int .u64 _]) (by simp [results, Tryd.results76, go_sem]) rfl ⟨rfl, b⟩
  | 3, hc, w => by
    have h := mul64_b 3 hc w
    go_enter Tryd.func76, Tryd.ntmps76
    go_wp2_with fail
    refine h.mono ?_
    rintro e w1 ⟨rfl, b⟩
    go_wp2
    exact bodyPost_ret (v := .tuple #[.int .u64 0, .int .u64 _]) (by simp [results, Tryd.results76, go_sem]) rfl ⟨rfl, b⟩
  | 4, hc, w => by
    have h := mul64_b 4 hc w
    go_enter Tryd.func76, Tryd.ntmps76
    go_wp2_with fail
    refine h.mono ?_
    rintro e w1 ⟨rfl, b⟩
    go_wp2
    exact bodyPost_ret (v := .tuple #[.int .u64 0, .int .u64 _]) (by simp [results, Tryd.results76, go_sem]) rfl ⟨rfl, b⟩
  | 5, hc, w => by
    have h := mul64_b 5 hc w
    go_enter Tryd.func76, Tryd.ntmps76
    go_wp2_with fail
    refine h.mono ?_
    rintro e w1 ⟨rfl, b⟩
    go_wp2
    exact bodyPost_ret (v := .tuple #[.int .u64 0, .int .u64 _]) (by simp [results, Tryd.results76, go_sem]) rfl ⟨rfl, b⟩
  | 6, hc, w => by
    have h := mul64_b 6 hc w
    go_enter Tryd.func76, Tryd.ntmps76
    go_wp2_with fail
    refine h.mono ?_
    rintro e w1 ⟨rfl, b⟩
    go_wp2
    exact bodyPost_ret (v := .tuple #[.int .u64 0, .int .u64 _]) (by simp [results, Tryd.results76, go_sem]) rfl ⟨rfl, b⟩
  | 7, hc, w => by
    have h := mul64_b 7 hc w
    go_enter Tryd.func76, Tryd.ntmps76
    go_wp2_with fail
    refine h.mono ?_
    rintro e w1 ⟨rfl, b⟩
    go_wp2
    exact bodyPost_ret (v := .tuple #[.int .u64 0, .int .u64 _]) (by simp [results, Tryd.results76, go_sem]) rfl ⟨rfl, b⟩
  | 8, hc, w => by
    have h := mul64_b 8 hc w
    go_enter Tryd.func76, Tryd.ntmps76
    go_wp2_with fail
    refine h.mono ?_
    rintro e w1 ⟨rfl, b⟩
    go_wp2
    exact bodyPost_ret (v := .tuple #[.int .u64 0, .int .u64 _]) (by simp [results, Tryd.results76, go_sem]) rfl ⟨rfl, b⟩
  | 9, hc, w => by
    have h := mul64_b 9 hc w
    go_enter Tryd.func76, Tryd.ntmps76
    go_wp2_with fail
    refine h.mono ?_
    rintro e w1 ⟨rfl, b⟩
    go_wp2
    exact bodyPost_ret (v := .tuple #[.int .u64 0, .int .u64 _]) (by simp [results, Tryd.results76, go_sem]) rfl ⟨rfl, b⟩
  | 10, hc, w => by
    have h := mul64_b 10 hc w
    go_enter Tryd.func76, Tryd.ntmps76
    go_wp2_with fail
    refine h.mono ?_
    rintro e w1 ⟨rfl, b⟩
    go_wp2
    exact bodyPost_ret (v := .tuple #[.int .u64 0, .int .u64 _]) (by simp [results, Tryd.results76, go_sem]) rfl ⟨rfl, b⟩
  | 11, hc, w => by
    have h := mul64_b 11 hc w
    go_enter Tryd.func76, Tryd.ntmps76
    go_wp2_with fail
    refine h.mono ?_
    rintro e w1 ⟨rfl, b⟩
    go_wp2
    exact bodyPost_ret (v := .tuple #[.int .u64 0, .int .u64 _]) (by simp [results, Tryd.results76, go_sem]) rfl ⟨rfl, b⟩
  | 12, hc, w => by
    have h := mul64_b 12 hc w
    go_enter Tryd.func76, Tryd.ntmps76
    go_wp2_with fail
    refine h.mono ?_
    rintro e w1 ⟨rfl, b⟩
    go_wp2
    exact bodyPost_ret (v := .tuple #[.int .u64 0, .int .u64 _]) (by simp [results, Tryd.results76, go_sem]) rfl ⟨rfl, b⟩
  | 13, hc, w => by
    have h := mul64_b 13 hc w
    go_enter Tryd.func76, Tryd.ntmps76
    go_wp2_with fail
    refine h.mono ?_
    rintro e w1 ⟨rfl, b⟩
    go_wp2
    exact bodyPost_ret (v := .tuple #[.int .u64 0, .int .u64 _]) (by simp [results, Tryd.results76, go_sem]) rfl ⟨rfl, b⟩
  | 14, hc, w => by
    have h := mul64_b 14 hc w
    go_enter Tryd.func76, Tryd.ntmps76
    go_wp2_with fail
    refine h.mono ?_
    rintro e w1 ⟨rfl, b⟩
    go_wp2
    exact bodyPost_ret (v := .tuple #[.int .u64 0, .int .u64 _]) (by simp [results, Tryd.results76, go_sem]) rfl ⟨rfl, b⟩
  | 15, hc, w => by
    have h := mul64_b 15 hc w
    go_enter Tryd.func76, Tryd.ntmps76
    go_wp2_with fail
    refine h.mono ?_
    rintro e w1 ⟨rfl, b⟩
    go_wp2
    exact bodyPost_ret (v := .tuple #[.int .u64 0, .int .u64 _]) (by simp [results, Tryd.results76, go_sem]) rfl ⟨rfl, b⟩
  | 16, hc, w => by
    have h := mul64_b 16 hc w
    go_enter Tryd.func76, Tryd.ntmps76
    go_wp2_with fail
    refine h.mono ?_
    rintro e w1 ⟨rfl, b⟩
    go_wp2
    exact bodyPost_ret (v := .tuple #[.int .u64 0, .int .u64 _]) (by simp [results, Tryd.results76, go_sem]) rfl ⟨rfl, b⟩
  | 17, hc, w => by
    have h := mul64_b 17 hc w
    go_enter Tryd.func76, Tryd.ntmps76
    go_wp2_with fail
    refine h.mono ?_
    rintro e w1 ⟨rfl, b⟩
    go_wp2
    exact bodyPost_ret (v := .tuple #[.int .u64 0, .int .u64 _]) (by simp [results, Tryd.results76, go_sem]) rfl ⟨rfl, b⟩
  | 18, hc, w => by
    have h := mul64_b 18 hc w
    go_enter Tryd.func76, Tryd.ntmps76
    go_wp2_with fail
    refine h.mono ?_
    rintro e w1 ⟨rfl, b⟩
    go_wp2
    exact bodyPost_ret (v := .tuple #[.int .u64 0, .int .u64 _]) (by simp [results, Tryd.results76, go_sem]) rfl ⟨rfl, b⟩
  | 19, hc, w => by
    have h := mul64_b 19 hc w
    go_enter Tryd.func76, Tryd.ntmps76
    go_wp2_with fail
    refine h.mono ?_
    rintro e w1 ⟨rfl, b⟩
    go_wp2
    exact bodyPost_ret (v := .tuple #[.int .u64 0, .int .u64 _]) (by simp [results, Tryd.results76, go_sem]) rfl ⟨rfl, b⟩
  | 20, hc, w => by
    have h := mul64_b 20 hc w
    go_enter Tryd.func76, Tryd.ntmps76
    go_wp2_with fail
    refine h.mono ?_
    rintro e w1 ⟨rfl, b⟩
    go_wp2
    exact bodyPost_ret (v := .tuple #[.int .u64 0, .int .u64 _]) (by simp [results, Tryd.results76, go_sem]) rfl ⟨rfl, b⟩
  | 21, hc, w => by
    have h := mul64_b 21 hc w
    go_enter Tryd.func76, Tryd.ntmps76
    go_wp2_with fail
    refine h.mono ?_
    rintro e w1 ⟨rfl, b⟩
    go_wp2
    exact bodyPost_ret (v := .tuple #[.int .u64 0, .int .u64 _]) (by simp [results, Tryd.results76, go_sem]) rfl ⟨rfl, b⟩
  | 22, hc, w => by
    have h := mul64_b 22 hc w
    go_enter Tryd.func76, Tryd.ntmps76
    go_wp2_with fail
    refine h.mono ?_
    rintro e w1 ⟨rfl, b⟩
    go_wp2
    exact bodyPost_ret (v := .tuple #[.int .u64 0, .int .u64 _]) (by simp [results, Tryd.results76, go_sem]) rfl ⟨rfl, b⟩
  | 23, hc, w => by
    have h := mul64_b 23 hc w
    go_enter Tryd.func76, Tryd.ntmps76
    go_wp2_with fail
    refine h.mono ?_
    rintro e w1 ⟨rfl, b⟩
    go_wp2
    exact bodyPost_ret (v := .tuple #[.int .u64 0, .int .u64 _]) (by simp [results, Tryd.results76, go_sem]) rfl ⟨rfl, b⟩
  | 24, hc, w => by
    have h := mul64_b 24 hc w
    go_enter Tryd.func76, Tryd.ntmps76
    go_wp2_with fail
    refine h.mono ?_
    rintro e w1 ⟨rfl, b⟩
    go_wp2
    exact bodyPost_ret (v := .tuple #[.int .u64 0, .int .u64 _]) (by simp [results, Tryd.results76, go_sem]) rfl ⟨rfl, b⟩
  | 25, hc, w => by
    have h := mul64_b 25 hc w
    go_enter Tryd.func76, Tryd.ntmps76
    go_wp2_with fail
    refine h.mono ?_
    rintro e w1 ⟨rfl, b⟩
    go_wp2
    exact bodyPost_ret (v := .tuple #[.int .u64 0, .int .u64 _]) (by simp [results, Tryd.results76, go_sem]) rfl ⟨rfl, b⟩
  | 26, hc, w => by
    have h := mul64_b 26 hc w
    go_enter Tryd.func76, Tryd.ntmps76
    go_wp2_with fail
    refine h.mono ?_
    rintro e w1 ⟨rfl, b⟩
    go_wp2
    exact bodyPost_ret (v := .tuple #[.int .u64 0, .int .u64 _]) (by simp [results, Tryd.results76, go_sem]) rfl ⟨rfl, b⟩
  | 27, hc, w => by
    have h := mul64_b 27 hc w
    go_enter Tryd.func76, Tryd.ntmps76
    go_wp2_with fail
    refine h.mono ?_
    rintro e w1 ⟨rfl, b⟩
    go_wp2
    exact bodyPost_ret (v := .tuple #[.int .u64 0, .int .u64 _]) (by simp [results, Tryd.results76, go_sem]) rfl ⟨rfl, b⟩
  | 28, hc, w => by
    have h := mul64_b 28 hc w
    go_enter Tryd.func76, Tryd.ntmps76
    go_wp2_with fail
    refine h.mono ?_
    rintro e w1 ⟨rfl, b⟩
    go_wp2
    exact bodyPost_ret (v := .tuple #[.int .u64 0, .int .u64 _]) (by simp [results, Tryd.results76, go_sem]) rfl ⟨rfl, b⟩
  | 29, hc, w => by
    have h := mul64_b 29 hc w
    go_enter Tryd.func76, Tryd.ntmps76
    go_wp2_with fail
    refine h.mono ?_
    rintro e w1 ⟨rfl, b⟩
    go_wp2
    exact bodyPost_ret (v := .tuple #[.int .u64 0, .int .u64 _]) (by simp [results, Tryd.results76, go_sem]) rfl ⟨rfl, b⟩
  | 30, hc, w => by
    have h := mul64_b 30 hc w
    go_enter Tryd.func76, Tryd.ntmps76
    go_wp2_with fail
    refine h.mono ?_
    rintro e w1 ⟨rfl, b⟩
    go_wp2
    exact bodyPost_ret (v := .tuple #[.int .u64 0, .int .u64 _]) (by simp [results, Tryd.results76, go_sem]) rfl ⟨rfl, b⟩
  | 31, hc, w => by
    have h := mul64_b 31 hc w
    go_enter Tryd.func76, Tryd.ntmps76
    go_wp2_with fail
    refine h.mono ?_
    rintro e w1 ⟨rfl, b⟩
    go_wp2
    exact bodyPost_ret (v := .tuple #[.int .u64 0, .int .u64 _]) (by simp [results, Tryd.results76, go_sem]) rfl ⟨rfl, b⟩
  | 32, hc, w => by
    have h := mul64_b 32 hc w
    go_enter Tryd.func76, Tryd.ntmps76
    go_wp2_with fail
    refine h.mono ?_
    rintro e w1 ⟨rfl, b⟩
    go_wp2
    exact bodyPost_ret (v := .tuple #[.int .u64 0, .int .u64 _]) (by simp [results, Tryd.results76, go_sem]) rfl ⟨rfl, b⟩
  | 33, hc, w => by
    have h := mul64_b 33 hc w
    go_enter Tryd.func76, Tryd.ntmps76
    go_wp2_with fail
    refine h.mono ?_
    rintro e w1 ⟨rfl, b⟩
    go_wp2
    exact bodyPost_ret (v := .tuple #[.int .u64 0, .int .u64 _]) (by simp [results, Tryd.results76, go_sem]) rfl ⟨rfl, b⟩
  | 34, hc, w => by
    have h := mul64_b 34 hc w
    go_enter Tryd.func76, Tryd.ntmps76
    go_wp2_with fail
    refine h.mono ?_
    rintro e w1 ⟨rfl, b⟩
    go_wp2
    exact bodyPost_ret (v := .tuple #[.int .u64 0, .int .u64 _]) (by simp [results, Tryd.results76, go_sem]) rfl ⟨rfl, b⟩
  | 35, hc, w => by
    have h := mul64_b 35 hc w
    go_enter Tryd.func76, Tryd.ntmps76
    go_wp2_with fail
    refine h.mono ?_
    rintro e w1 ⟨rfl, b⟩
    go_wp2
    exact bodyPost_ret (v := .tuple #[.int .u64 0, .int .u64 _]) (by simp [results, Tryd.results76, go_sem]) rfl ⟨rfl, b⟩
  | 36, hc, w => by
    have h := mul64_b 36 hc w
    go_enter Tryd.func76, Tryd.ntmps76
    go_wp2_with fail
    refine h.mono ?_
    rintro e w1 ⟨rfl, b⟩
    go_wp2
    exact bodyPost_ret (v := .tuple #[.int .u64 0, .int .u64 _]) (by simp [results, Tryd.results76, go_sem]) rfl ⟨rfl, b⟩
  | 37, hc, w => by
    have h := mul64_b 37 hc w
    go_enter Tryd.func76, Tryd.ntmps76
    go_wp2_with fail
    refine h.mono ?_
    rintro e w1 ⟨rfl, b⟩
    go_wp2
    exact bodyPost_ret (v := .tuple #[.int .u64 0, .int .u64 _]) (by simp [results, Tryd.results76, go_sem]) rfl ⟨rfl, b⟩
  | 38, hc, w => by
    have h := mul64_b 38 hc w
    go_enter Tryd.func76, Tryd.ntmps76
    go_wp2_with fail
    refine h.mono ?_
    rintro e w1 ⟨rfl, b⟩
    go_wp2
    exact bodyPost_ret (v := .tuple #[.int .u64 0, .int .u64 _]) (by simp [results, Tryd.results76, go_sem]) rfl ⟨rfl, b⟩
  | 39, hc, w => by
    have h := mul64_b 39 hc w
    go_enter Tryd.func76, Tryd.ntmps76
    go_wp2_with fail
    refine h.mono ?_
    rintro e w1 ⟨rfl, b⟩
    go_wp2
    exact bodyPost_ret (v := .tuple #[.int .u64 0, .int .u64 _]) (by simp [results, Tryd.results76, go_sem]) rfl ⟨rfl, b⟩
  | 40, hc, w => by
    have h := mul64_b 40 hc w
    go_enter Tryd.func76, Tryd.ntmps76
    go_wp2_with fail
    refine h.mono ?_
    rintro e w1 ⟨rfl, b⟩
    go_wp2
    exact bodyPost_ret (v := .tuple #[.int .u64 0, .int .u64 _]) (by simp [results, Tryd.results76, go_sem]) rfl ⟨rfl, b⟩
  | 41, hc, w => by
    have h := mul64_b 41 hc w
    go_enter Tryd.func76, Tryd.ntmps76
    go_wp2_with fail
    refine h.mono ?_
    rintro e w1 ⟨rfl, b⟩
    go_wp2
    exact bodyPost_ret (v := .tuple #[.int .u64 0, .int .u64 _]) (by simp [results, Tryd.results76, go_sem]) rfl ⟨rfl, b⟩
  | 42, hc, w => by
    have h := mul64_b 42 hc w
    go_enter Tryd.func76, Tryd.ntmps76
    go_wp2_with fail
    refine h.mono ?_
    rintro e w1 ⟨rfl, b⟩
    go_wp2
    exact bodyPost_ret (v := .tuple #[.int .u64 0, .int .u64 _]) (by simp [results, Tryd.results76, go_sem]) rfl ⟨rfl, b⟩
  | 43, hc, w => by
    have h := mul64_b 43 hc w
    go_enter Tryd.func76, Tryd.ntmps76
    go_wp2_with fail
    refine h.mono ?_
    rintro e w1 ⟨rfl, b⟩
    go_wp2
    exact bodyPost_ret (v := .tuple #[.int .u64 0, .int .u64 _]) (by simp [results, Tryd.results76, go_sem]) rfl ⟨rfl, b⟩
  | 44, hc, w => by
    have h := mul64_b 44 hc w
    go_enter Tryd.func76, Tryd.ntmps76
    go_wp2_with fail
    refine h.mono ?_
    rintro e w1 ⟨rfl, b⟩
    go_wp2
    exact bodyPost_ret (v := .tuple #[.int .u64 0, .int .u64 _]) (by simp [results, Tryd.results76, go_sem]) rfl ⟨rfl, b⟩
  | 45, hc, w => by
    have h := mul64_b 45 hc w
    go_enter Tryd.func76, Tryd.ntmps76
    go_wp2_with fail
    refine h.mono ?_
    rintro e w1 ⟨rfl, b⟩
    go_wp2
    exact bodyPost_ret (v := .tuple #[.int .u64 0, .int .u64 _]) (by simp [results, Tryd.results76, go_sem]) rfl ⟨rfl, b⟩
  | 46, hc, w => by
    have h := mul64_b 46 hc w
    go_enter Tryd.func76, Tryd.ntmps76
    go_wp2_with fail
    refine h.mono ?_
    rintro e w1 ⟨rfl, b⟩
    go_wp2
    exact bodyPost_ret (v := .tuple #[.int .u64 0, .int .u64 _]) (by simp [results, Tryd.results76, go_sem]) rfl ⟨rfl, b⟩
  | 47, hc, w => by
    have h := mul64_b 47 hc w
    go_enter Tryd.func76, Tryd.ntmps76
    go_wp2_with fail
    refine h.mono ?_
    rintro e w1 ⟨rfl, b⟩
    go_wp2
    exact bodyPost_ret (v := .tuple #[.int .u64 0, .int .u64 _]) (by simp [results, Tryd.results76, go_sem]) rfl ⟨rfl, b⟩
  | 48, hc, w => by
    have h := mul64_b 48 hc w
    go_enter Tryd.func76, Tryd.ntmps76
    go_wp2_with fail
    refine h.mono ?_
    rintro e w1 ⟨rfl, b⟩
    go_wp2
    exact bodyPost_ret (v := .tuple #[.int .u64 0, .int .u64 _]) (by simp [results, Tryd.results76, go_sem]) rfl ⟨rfl, b⟩
  | 49, hc, w => by
    have h := mul64_b 49 hc w
    go_enter Tryd.func76, Tryd.ntmps76
    go_wp2_with fail
    refine h.mono ?_
    rintro e w1 ⟨rfl, b⟩
    go_wp2
    exact bodyPost_ret (v := .tuple #[.int .u64 0, .int .u64 _]) (by simp [results, Tryd.results76, go_sem]) rfl ⟨rfl, b⟩
  | 50, hc, w => by
    have h := mul64_b 50 hc w
    go_enter Tryd.func76, Tryd.ntmps76
    go_wp2_with fail
    refine h.mono ?_
    rintro e w1 ⟨rfl, b⟩
    go_wp2
    exact bodyPost_ret (v := .tuple #[.int .u64 0, .int .u64 _]) (by simp [results, Tryd.results76, go_sem]) rfl ⟨rfl, b⟩
  | 51, hc, w => by
    have h := mul64_b 51 hc w
    go_enter Tryd.func76, Tryd.ntmps76
    go_wp2_with fail
    refine h.mono ?_
    rintro e w1 ⟨rfl, b⟩
    go_wp2
    exact bodyPost_ret (v := .tuple #[.int .u64 0, .int .u64 _]) (by simp [results, Tryd.results76, go_sem]) rfl ⟨rfl, b⟩
  | 52, hc, w => by
    have h := mul64_b 52 hc w
    go_enter Tryd.func76, Tryd.ntmps76
    go_wp2_with fail
    refine h.mono ?_
    rintro e w1 ⟨rfl, b⟩
    go_wp2
    exact bodyPost_ret (v := .tuple #[.int .u64 0, .int .u64 _]) (by simp [results, Tryd.results76, go_sem]) rfl ⟨rfl, b⟩
  | 53, hc, w => by
    have h := mul64_b 53 hc w
    go_enter Tryd.func76, Tryd.ntmps76
    go_wp2_with fail
    refine h.mono ?_
    rintro e w1 ⟨rfl, b⟩
    go_wp2
    exact bodyPost_ret (v := .tuple #[.int .u64 0, .int .u64 _]) (by simp [results, Tryd.results76, go_sem]) rfl ⟨rfl, b⟩
  | 54, hc, w => by
    have h := mul64_b 54 hc w
    go_enter Tryd.func76, Tryd.ntmps76
    go_wp2_with fail
    refine h.mono ?_
    rintro e w1 ⟨rfl, b⟩
    go_wp2
    exact bodyPost_ret (v := .tuple #[.int .u64 0, .int .u64 _]) (by simp [results, Tryd.results76, go_sem]) rfl ⟨rfl, b⟩
  | 55, hc, w => by
    have h := mul64_b 55 hc w
    go_enter Tryd.func76, Tryd.ntmps76
    go_wp2_with fail
    refine h.mono ?_
    rintro e w1 ⟨rfl, b⟩
    go_wp2
    exact bodyPost_ret (v := .tuple #[.int .u64 0, .int .u64 _]) (by simp [results, Tryd.results76, go_sem]) rfl ⟨rfl, b⟩
  | 56, hc, w => by
    have h := mul64_b 56 hc w
    go_enter Tryd.func76, Tryd.ntmps76
    go_wp2_with fail
    refine h.mono ?_
    rintro e w1 ⟨rfl, b⟩
    go_wp2
    exact bodyPost_ret (v := .tuple #[.int .u64 0, .int .u64 _]) (by simp [results, Tryd.results76, go_sem]) rfl ⟨rfl, b⟩
  | 57, hc, w => by
    have h := mul64_b 57 hc w
    go_enter Tryd.func76, Tryd.ntmps76
    go_wp2_with fail
    refine h.mono ?_
    rintro e w1 ⟨rfl, b⟩
    go_wp2
    exact bodyPost_ret (v := .tuple #[.int .u64 0, .int .u64 _]) (by simp [results, Tryd.results76, go_sem]) rfl ⟨rfl, b⟩
  | 58, hc, w => by
    have h := mul64_b 58 hc w
    go_enter Tryd.func76, Tryd.ntmps76
    go_wp2_with fail
    refine h.mono ?_
    rintro e w1 ⟨rfl, b⟩
    go_wp2
    exact bodyPost_ret (v := .tuple #[.int .u64 0, .int .u64 _]) (by simp [results, Tryd.results76, go_sem]) rfl ⟨rfl, b⟩
  | 59, hc, w => by
    have h := mul64_b 59 hc w
    go_enter Tryd.func76, Tryd.ntmps76
    go_wp2_with fail
    refine h.mono ?_
    rintro e w1 ⟨rfl, b⟩
    go_wp2
    exact bodyPost_ret (v := .tuple #[.int .u64 0, .int .u64 _]) (by simp [results, Tryd.results76, go_sem]) rfl ⟨rfl, b⟩
  | 60, hc, w => by
    have h := mul64_b 60 hc w
    go_enter Tryd.func76, Tryd.ntmps76
    go_wp2_with fail
    refine h.mono ?_
    rintro e w1 ⟨rfl, b⟩
    go_wp2
    exact bodyPost_ret (v := .tuple #[.int .u64 0, .int .u64 _]) (by simp [results, Tryd.results76, go_sem]) rfl ⟨rfl, b⟩
  | c + 61, h, _ => absurd h (by omega)

end Go.Proofs.YtjochoghmpcgdaaDoor
