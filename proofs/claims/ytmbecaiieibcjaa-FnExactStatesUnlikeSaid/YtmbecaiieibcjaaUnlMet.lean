/-
  Has the reference's search met a pair? l05Met.
-/
import Derived.Test.YtmbecaiieibcjaaUnlAid
import Derived.Test.YtmbecaiieibcjaaUnlDef
namespace Go.Proofs.Ytmbecaiieibcjaa
open Go.RowKit

def metS (s t : Int) (x : Stp) : Bool := x.s == s && x.t == t

theorem rd_stps {ty : TypeId} {w : World} {B : Nat} {v : Value} {l : List Stp} (h : (sliceE stpE ty).rd w B [v] l) :
    ∃ a cap, v = .slice a l.length cap ∧ l.length ≤ cap ∧ cap ≤ 9223372036854775807 ∧ (a = none → cap = 0) ∧
      ∀ k x, l[k]? = some x → ∃ b o, a = some ⟨b, o, none⟩ ∧ b < B ∧ w.cell? ⟨b, o + k * 3, none⟩ = some (.int .i64 x.s) ∧ w.cell? ⟨b, o + k * 3 + 1, none⟩ = some (.int .i64 x.t) ∧ w.cell? ⟨b, o + k * 3 + 2, none⟩ = some (.string x.word) := by
  obtain ⟨a, cap, hv, h1, h2, h3, h4⟩ := h
  obtain rfl : v = .slice a l.length cap := by simpa using hv
  refine ⟨a, cap, rfl, h1, by simpa [maxLen] using h2, h3, fun k x hx => ?_⟩
  obtain ⟨b, o, xs, e1, e2, e3, e4⟩ := h4 k x hx
  obtain rfl := rd_stp e3
  have hs : stpE.size = 3 := rfl
  rw [hs] at e4
  exact ⟨b, o, e1, e2, by have := e4 0 _ rfl; simpa [Nat.add_assoc] using this, by have := e4 1 _ rfl; simpa [Nat.add_assoc] using this, by have := e4 2 _ rfl; simpa [Nat.add_assoc] using this⟩

set_option maxHeartbeats 1000000 in
theorem l05Met_any (v : Value) (l : List Stp) (s t : Int) (B : Nat) (w : World) {ty : TypeId} (h : (sliceE stpE ty).rd w B [v] l) (hl : l.length ≤ 1000000) :
    Calls Try.prog 48 #[v, .int .i64 s, .int .i64 t] w (Gives (.bool (l.any (metS s t))) w) := by
  obtain ⟨a, cap, rfl, h1, h2, -, h4⟩ := rd_stps h
  obtain ⟨res, hres⟩ : ∃ x, x = l.any (metS s t) := ⟨_, rfl⟩
  obtain ⟨n, hn⟩ : ∃ n, n = l.length := ⟨_, rfl⟩
  rw [← hn] at h1 hl ⊢
  rw [← hres]
  have HRES := Lib.hid hres; have HN := Lib.hid hn; have H4 := Lib.hid h4
  clear h h4 hres hn
  go_enter Try.func48, Try.ntmps48
  go_wp2
  go_loopw [7] (fun q wr => ∃ k : Nat, k ≤ n ∧ q = .int .i64 k ∧ wr = w ∧ Hid (res = (l.drop k).any (metS s t))) (fun q _ => n - (intOf q).toNat)
  case atStart => exact ⟨0, by omega, rfl, rfl, Lib.hid (by rw [List.drop_zero]; exact HRES.out)⟩
  case round =>
    obtain ⟨k, hk, rfl, rfl, HR⟩ := hrel
    by_cases hlt : k < n
    case neg =>
      obtain rfl : n = k := by omega
      obtain rfl : res = false := by rw [HR.out, HN.out, List.drop_length]; rfl
      go_wp2
      go_ret
      exact ⟨rfl, Below.refl _ _⟩
    have hlk : k < l.length := by rw [← HN.out]; exact hlt
    obtain ⟨b, o, rfl, -, c0, c1, -⟩ := H4.out k _ (List.getElem?_eq_getElem hlk)
    have hst : res = (metS s t l[k] || (l.drop (k + 1)).any (metS s t)) := by rw [HR.out, List.drop_eq_getElem_cons hlk, List.any_cons]
    unfold metS at hst
    obtain ⟨x, hx⟩ : ∃ x, x = l[k] := ⟨_, rfl⟩
    rw [← hx] at c0 c1 hst
    have HST := Lib.hid hst
    have i1 : (0 : Int) ≤ (k : Int) := by omega
    have i2 : (k : Int) < (n : Int) := by omega
    clear hst hx hlk HR
    by_cases e1 : x.s = s
    case neg =>
      have tA : (x.s == s) = false := by simpa using e1
      have hR : res = (l.drop (k + 1)).any (metS s t) := by have := HST.out; rw [tA, Bool.false_and, Bool.false_or] at this; exact this
      have HR := Lib.hid hR
      clear hR
      go_wp2
      go_roundw
      case rel => exact ⟨k + 1, by omega, by go_num, trivial, HR⟩
      case measure => simp [intOf]; omega
    have tA : (x.s == s) = true := by simpa using e1
    by_cases e2 : x.t = t
    case neg =>
      have tB : (x.t == t) = false := by simpa using e2
      have hR : res = (l.drop (k + 1)).any (metS s t) := by have := HST.out; rw [tB, Bool.and_false, Bool.false_or] at this; exact this
      have HR := Lib.hid hR
      clear hR
      go_wp2
      go_roundw
      case rel => exact ⟨k + 1, by omega, by go_num, trivial, HR⟩
      case measure => simp [intOf]; omega
    have tB : (x.t == t) = true := by simpa using e2
    obtain rfl : res = true := by rw [HST.out, tA, tB]; rfl
    go_wp2
    go_ret
    exact ⟨rfl, Below.refl _ _⟩

end Go.Proofs.Ytmbecaiieibcjaa
