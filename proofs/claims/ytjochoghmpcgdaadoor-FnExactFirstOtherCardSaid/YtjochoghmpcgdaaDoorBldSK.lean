/-
  A builder as a part of what a call holds of its own.
-/
import Derived.Test.YtjochoghmpcgdaaDoorBldKK
namespace Go.Proofs.YtjochoghmpcgdaaDoor
open Go.RowKit

theorem rowF_frame {w w' : World} {e : TypeId} {v : Value} {n : Nat} {xs : List Value} (hf : ∀ b, b ∈ v.ownBlock.toList → w'.heap[b]? = w.heap[b]?) (h : w.ownsRowF 0 e 1 v n xs) : w'.ownsRowF 0 e 1 v n xs := by
  obtain ⟨h1, h2⟩ := h
  refine ⟨h1, ?_⟩
  rcases h2 with h2 | ⟨g, cap, cur, fz, rfl, hg, hh, r⟩
  · exact .inl h2
  · exact .inr ⟨g, cap, cur, fz, rfl, hg, (hf g (by simp [Value.ownBlock])).trans hh, r⟩

theorem rowF_base {w : World} {B B' : Nat} {e : TypeId} {v : Value} {n : Nat} {xs : List Value} (hf : ∀ b, b ∈ v.ownBlock.toList → B' ≤ b) (h : w.ownsRowF B e 1 v n xs) : w.ownsRowF B' e 1 v n xs := by
  obtain ⟨h1, h2⟩ := h
  refine ⟨h1, ?_⟩
  rcases h2 with h2 | ⟨g, cap, cur, fz, rfl, hg, hh, r⟩
  · exact .inl h2
  · exact .inr ⟨g, cap, cur, fz, rfl, hf g (by simp [Value.ownBlock]), hh, r⟩

theorem rowF_typ {w : World} {B : Nat} {e : TypeId} {v : Value} {n : Nat} {xs : List Value} (h : w.ownsRowF B e 1 v n xs) {k : Nat} (hk : k ∈ v.ownBlock.toList) : B ≤ k ∧ ∃ cs fz, w.heap[k]? = some (Obj.cells cs e fz) := by
  obtain ⟨h1, h2⟩ := h
  rcases h2 with ⟨rfl, -⟩ | ⟨g, cap, cur, fz, rfl, hg, hh, r⟩
  · simp [Value.ownBlock] at hk
  · simp [Value.ownBlock] at hk
    rw [hk]
    exact ⟨hg, _, _, hh⟩

/-- A builder in block b. -/
def oBld (b : Nat) (l : List UInt8) : Ob := ⟨fun w f => ∃ p v, (p = Value.pointer none ∨ p = .pointer (some ⟨b, 0, none⟩)) ∧ w.heap[b]? = some (Obj.cells #[p, v] 94 (0, 0)) ∧ w.ownsRowF 0 5 1 v (Lib.byteCells l).length (Lib.byteCells l) ∧ v.ownBlock ≠ some b ∧ f = b :: v.ownBlock.toList, fun {w w' fp} hf h => by
  obtain ⟨p, v, h1, h2, h3, h4, rfl⟩ := h
  exact ⟨p, v, h1, (hf b (by simp)).trans h2, rowF_frame (fun k hk => hf k (by simp only [List.mem_cons]; exact .inr hk)) h3, h4, rfl⟩⟩

theorem Star.bldOut {w0 w : World} {ps : List Ob} (S : Star w0 w ps) (n : Nat) {b : Nat} {l : List UInt8} (h : ps[n]? = some (oBld b l)) : BldK w0.heap.size b l w := by
  obtain ⟨-, fp, hh, -⟩ := S
  obtain ⟨h1, h2, h3⟩ := hh n _ h
  obtain ⟨p, v, e1, e2, e3, e4, e5⟩ := h1
  rw [e5] at h3
  have hB : w0.heap.size ≤ b := (h3 b (by simp)).1
  have hr := rowF_base (B' := w0.heap.size) (fun k hk => (h3 k (by simp only [List.mem_cons]; exact .inr hk)).1) e3
  rcases e1 with rfl | rfl
  · exact .inl ⟨hB, v, e2, hr, e4⟩
  · exact .inr ⟨hB, v, e2, hr, e4⟩

theorem Star.bldIn {w0 w : World} {ps : List Ob} {b : Nat} {l : List UInt8} (S : Star w0 w ps) (hf : ∀ P, P ∈ ps → P.Far) (h : BldK w0.heap.size b l w) : Star w0 w (oBld b l :: ps) := by
  obtain ⟨p, hp, hB, v, hb, hr, hne⟩ : ∃ p, (p = Value.pointer none ∨ p = .pointer (some ⟨b, 0, none⟩)) ∧ Lib.BuilderAtF 94 5 w0.heap.size b p (Lib.byteCells l) w := by
    rcases h with h | h
    · exact ⟨_, .inl rfl, h⟩
    · exact ⟨_, .inr rfl, h⟩
  obtain ⟨B, fp, hh, d⟩ := S
  have hlt : ∀ {k : Nat} {o : Obj}, w.heap[k]? = some o → k < w.heap.size := fun h => (Array.getElem?_eq_some_iff.1 h).1
  have hty : ∀ k, k ∈ b :: v.ownBlock.toList → w0.heap.size ≤ k ∧ k < w.heap.size ∧ ∃ cs ty fz, w.heap[k]? = some (Obj.cells cs ty fz) ∧ (ty = 94 ∨ ty = 5) := by
    intro k hk
    rcases List.mem_cons.1 hk with rfl | hk
    · exact ⟨hB, hlt hb, _, _, _, hb, .inl rfl⟩
    · obtain ⟨k1, cs, fz, k2⟩ := rowF_typ hr hk
      exact ⟨k1, hlt k2, _, _, _, k2, .inr rfl⟩
  have hdj : ∀ i, i < ps.length → Dj (b :: v.ownBlock.toList) (fp i) := by
    intro i hi k hk1 hk2
    obtain ⟨-, -, cs, ty, fz, e1, e2⟩ := hty k hk1
    obtain ⟨cs', ty', fz', f1, f2, f3⟩ := hf _ (List.getElem_mem hi) w _ (hh i _ (List.getElem?_eq_getElem hi)).1 k hk2
    rw [e1] at f1
    cases f1
    rcases e2 with e2 | e2
    · exact f2 e2
    · exact f3 e2
  refine ⟨B, fun i => match i with | 0 => b :: v.ownBlock.toList | i + 1 => fp i, fun i P hP => ?_, fun i j hij hi hj => ?_⟩
  · cases i with
    | zero =>
      obtain rfl : _ = P := by simpa using hP
      refine ⟨⟨p, v, hp, hb, rowF_base (fun k _ => Nat.zero_le _) hr, hne, rfl⟩, ?_, fun k hk => ⟨(hty k hk).1, (hty k hk).2.1⟩⟩
      cases ho : v.ownBlock with
      | none => simp
      | some g => rw [ho] at hne; simp only [Option.toList, List.nodup_cons, List.mem_singleton, List.not_mem_nil, not_false_eq_true, List.nodup_nil, and_true]; exact fun e => hne (by rw [e])
    | succ i => exact hh i P (by simpa using hP)
  · cases i with
    | zero =>
      cases j with
      | zero => exact absurd rfl hij
      | succ j => exact hdj j (by simpa using hj)
    | succ i =>
      cases j with
      | zero => exact (hdj i (by simpa using hi)).symm
      | succ j => exact d i j (by omega) (by simpa using hi) (by simpa using hj)

theorem Star.bldNew {w0 w : World} {ps : List Ob} (S : Star w0 w ps) : Star w0 (w.alloc (.cells #[.pointer none, .slice none 0 0] 94)) (oBld w.heap.size [] :: ps) :=
  S.push (P := oBld w.heap.size []) (f := [w.heap.size]) ((Below.refl _ _).alloc (Nat.le_refl _) _) ⟨_, _, .inl rfl, by have h := Blk.new w #[.pointer none, .slice none 0 0] 94; exact h, ⟨rfl, .inl ⟨rfl, rfl⟩⟩, by simp [Value.ownBlock], rfl⟩ (by simp) (fun b hb => by rw [List.mem_singleton.1 hb]; exact Nat.le_refl _) (fun b hb => by rw [List.mem_singleton.1 hb, World.size_alloc]; exact Nat.lt_succ_self _)

theorem Star.tl {w0 w : World} {P : Ob} {ps : List Ob} (S : Star w0 w (P :: ps)) : Star w0 w ps := by
  obtain ⟨B, fp, hh, d⟩ := S
  exact ⟨B, fun i => fp (i + 1), fun i Q hQ => hh (i + 1) Q (by simpa using hQ), fun i j hij hi hj => d (i + 1) (j + 1) (by omega) (by simpa using hi) (by simpa using hj)⟩

/-- A write into the builder. -/
theorem Star.write {w0 w : World} {ps : List Ob} {b : Nat} {l : List UInt8} (S : Star w0 w (oBld b l :: ps)) (hf : ∀ P, P ∈ ps → P.Far) (s : ByteArray) (hlen : l.length + s.size ≤ 1000000) :
    Calls Tryd.prog 52 #[.pointer (some ⟨b, 0, none⟩), .string s] w (fun e w' => e = .returned (.tuple #[.int .i64 s.size, .nilIface]) ∧ Star w0 w' (oBld b (l ++ s.data.toList) :: ps)) := by
  refine (writeK_any w0.heap.size b l s w (S.bldOut 0 rfl) hlen S.below.size).mono ?_
  rintro e w' ⟨rfl, h1, h2, h3⟩
  exact ⟨rfl, (S.tl.calm hf h2 h3).bldIn hf h1⟩

theorem Star.blen {w0 w : World} {ps : List Ob} {b : Nat} {l : List UInt8} (S : Star w0 w (oBld b l :: ps)) :
    Calls Tryd.prog 53 #[.pointer (some ⟨b, 0, none⟩)] w (fun e w' => e = .returned (.int .i64 l.length) ∧ w' = w) := lenK_any _ b l w (S.bldOut 0 rfl)

theorem Star.bstr {w0 w : World} {ps : List Ob} {b : Nat} {l : List UInt8} (S : Star w0 w (oBld b l :: ps)) :
    Calls Tryd.prog 54 #[.pointer (some ⟨b, 0, none⟩)] w (fun e w' => e = .returned (.string ⟨l.toArray⟩) ∧ Below w0.heap.size w0 w') := by
  refine (stringK_any w0.heap.size b l w (S.bldOut 0 rfl) S.below.size).mono ?_
  rintro e w' ⟨rfl, h2, -⟩
  exact ⟨rfl, S.below.trans h2⟩

end Go.Proofs.YtjochoghmpcgdaaDoor
