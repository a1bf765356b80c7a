/-
  The program's search for a word that tells two states apart: firstText at pairs.
-/
import Derived.Test.YtmbecaiieibcjaaUnlMap
import Derived.Test.YtmbecaiieibcjaaUnlC
import Derived.Test.YtmbecaiieibcjaaUnlRev
import Derived.Test.YtmbecaiieibcjaaCalmP
import Derived.Maps.OwnOps
import Derived.Deep.DeepCutAuto
namespace Go.Proofs.Ytmbecaiieibcjaa
open Go.RowKit

def FromU (L : List PW) (k : Nat) (x : PW) (f : Fnd) : Prop :=
  (f.before = -1 ∧ x.2 = []) ∨ ∃ (j : Nat) (y : PW) (l : Nat), j < k ∧ f.before = j ∧ L[j]? = some y ∧ l < 3 ∧ f.letter = l ∧ x.2 = y.2 ++ [UInt8.ofNat (97 + l)]

/-- The entries in cells, and what they stand for. -/
structure RelU (L : List PW) (M : List Fnd) : Prop where
  len : M.length = L.length
  get : ∀ k x, L[k]? = some x → ∃ f, M[k]? = some f ∧ f.s = ((x.1.1 : Nat) : Int) ∧ f.t = ((x.1.2 : Nat) : Int) ∧ FromU L k x f

theorem FromU.app {L X : List PW} {k : Nat} {x : PW} {f : Fnd} (h : FromU L k x f) : FromU (L ++ X) k x f := by
  rcases h with h | ⟨j, y, l, h1, h2, h3, h4⟩
  · exact .inl h
  · exact .inr ⟨j, y, l, h1, h2, by rw [List.getElem?_append_left (List.getElem?_eq_some_iff.1 h3).1]; exact h3, h4⟩

theorem RelU.snoc {L : List PW} {M : List Fnd} (h : RelU L M) {i l : Nat} {e : PW} (hi : L[i]? = some e) (hl : l < 3) (p q : Nat) : RelU (L ++ [((p, q), e.2 ++ [UInt8.ofNat (97 + l)])]) (M ++ [⟨p, q, i, l⟩]) := by
  refine ⟨by rw [List.length_append, List.length_append, h.len]; rfl, fun k x hx => ?_⟩
  have hil := (List.getElem?_eq_some_iff.1 hi).1
  by_cases hk : k < L.length
  · rw [List.getElem?_append_left hk] at hx
    obtain ⟨f, h1, h2, h3, h4⟩ := h.get k x hx
    exact ⟨f, by rw [List.getElem?_append_left (by rw [h.len]; exact hk)]; exact h1, h2, h3, h4.app⟩
  · have hk2 : k = L.length := by
      have := (List.getElem?_eq_some_iff.1 hx).1
      rw [List.length_append, List.length_singleton] at this
      omega
    subst hk2
    rw [List.getElem?_append_right (Nat.le_refl _), Nat.sub_self] at hx
    obtain rfl : _ = x := Option.some.inj (show some _ = some x from hx)
    refine ⟨_, by rw [List.getElem?_append_right (by rw [h.len]; exact Nat.le_refl _), h.len, Nat.sub_self]; rfl, rfl, rfl, .inr ⟨i, e, l, hil, rfl, by rw [List.getElem?_append_left hil]; exact hi, hl, rfl, rfl⟩⟩

theorem RelU.one (s t : Nat) : RelU [((s, t), [])] [⟨s, t, -1, 0⟩] := ⟨rfl, fun k x hx => by
  have hk : k = 0 := by have := (List.getElem?_eq_some_iff.1 hx).1; simpa using this
  subst hk
  obtain rfl : _ = x := by simpa using hx
  exact ⟨_, rfl, rfl, rfl, .inl ⟨rfl, rfl⟩⟩⟩

theorem Star.mergeU {w0 w1 w2 : World} {ps qs : List Ob} (S : Star w0 w1 ps) (T : Star w1 w2 qs) : Star w0 w2 (qs ++ ps) := by
  obtain ⟨B, fp, h, d⟩ := S
  obtain ⟨B', fq, h', d'⟩ := T
  refine ⟨B.trans (B'.mono B.size), fun i => if i < qs.length then fq i else fp (i - qs.length), fun i P hP => ?_, fun i j hij hi hj => ?_⟩
  · by_cases hi : i < qs.length
    · rw [List.getElem?_append_left hi] at hP
      obtain ⟨k1, k2, k3⟩ := h' i P hP
      simp only [if_pos hi]
      exact ⟨k1, k2, fun b hb => ⟨Nat.le_trans B.size (k3 b hb).1, (k3 b hb).2⟩⟩
    · rw [List.getElem?_append_right (by omega)] at hP
      obtain ⟨k1, k2, k3⟩ := h _ P hP
      simp only [if_neg hi]
      exact ⟨P.frame (fun b hb => B'.block b (k3 b hb).2) k1, k2, fun b hb => ⟨(k3 b hb).1, Nat.lt_of_lt_of_le (k3 b hb).2 B'.size⟩⟩
  · rw [List.length_append] at hi hj
    have key : ∀ a b, a < qs.length → b < ps.length → Dj (fq a) (fp b) := fun a b ha hb x hx hy => by
      have h1 := ((h' a _ (List.getElem?_eq_getElem ha)).2.2 x hx).1
      have h2 := ((h b _ (List.getElem?_eq_getElem hb)).2.2 x hy).2
      omega
    by_cases h1 : i < qs.length <;> by_cases h2 : j < qs.length
    · simp only [if_pos h1, if_pos h2]; exact d' i j hij h1 h2
    · simp only [if_pos h1, if_neg h2]; exact key _ _ h1 (by omega)
    · simp only [if_neg h1, if_pos h2]; exact (key _ _ h2 (by omega)).symm
    · simp only [if_neg h1, if_neg h2]; exact d _ _ (by omega) (by omega) (by omega)

def intB (l : List UInt8) : List Int := l.map fun b => (b.toNat : Int)

theorem Star.fnd {w0 w : World} {ps : List Ob} (S : Star w0 w ps) (n : Nat) {ty : TypeId} {lb lo m lc k : Nat} {M : List Fnd} {f : Fnd} (h : ps[n]? = some (oE (sliceE fndE ty) [.slice (some ⟨lb, lo, none⟩) m lc] M)) (hk : M[k]? = some f) :
    w.cell? ⟨lb, lo + k * 4, none⟩ = some (.int .i64 f.s) ∧ w.cell? ⟨lb, lo + k * 4 + 1, none⟩ = some (.int .i64 f.t) ∧ w.cell? ⟨lb, lo + k * 4 + 2, none⟩ = some (.int .i64 f.before) ∧ w.cell? ⟨lb, lo + k * 4 + 3, none⟩ = some (.int .i64 f.letter) := by
  have hl : 0 < M.length := Nat.lt_of_le_of_lt (Nat.zero_le _) (List.getElem?_eq_some_iff.1 hk).1
  obtain ⟨lb', lo', lc', hv, -, -, q4⟩ := S.wide n h hl
  simp only [Value.slice.injEq, Option.some.injEq, Addr.mk.injEq, and_true] at hv
  obtain ⟨⟨rfl, rfl⟩, -, rfl⟩ := hv
  obtain ⟨xs, x1, x2⟩ := q4 k _ hk
  obtain rfl := rd_fnd x1
  have hsz : fndE.size = 4 := rfl
  rw [hsz] at x2
  refine ⟨?_, ?_, ?_, ?_⟩
  · have := x2 0 _ rfl; simpa [Nat.add_assoc] using this
  · have := x2 1 _ rfl; simpa [Nat.add_assoc] using this
  · have := x2 2 _ rfl; simpa [Nat.add_assoc] using this
  · have := x2 3 _ rfl; simpa [Nat.add_assoc] using this

set_option maxHeartbeats 8000000 in
set_option maxRecDepth 100000 in
theorem firstText_any (r : Reader) (s t g : Nat) (R : Option (List UInt8)) (w : World) (hA : RdU r w g) (hs : s < r.accept.length) (ht : t < r.accept.length) (hR : unlU true r s t = R) :
    Calls Try.prog 55 #[.int .i64 r.letters, .agg #[.int .i64 (s : Nat), .int .i64 (t : Nat)], .func (.func 56) #[] #[.pointer (some ⟨g, 0, none⟩)], .func (.func 57) #[] #[.pointer (some ⟨g, 0, none⟩)]] w (Gives (unlV R) w) := by
  have K := hA.ok
  obtain ⟨n, hn⟩ : ∃ n, n = r.accept.length := ⟨_, rfl⟩
  obtain ⟨c, hc⟩ : ∃ c : Nat, r.letters = c := ⟨r.letters.toNat, by have := K.l1; omega⟩
  have hn300 : n ≤ 300 := by rw [hn]; exact K.n300
  have hc3 : c ≤ 3 := by have := K.l3; omega
  have hcn : r.letters.toNat = c := by omega
  have hnn : n * n ≤ 90000 := Nat.mul_le_mul hn300 hn300
  rw [← hn] at hs ht
  rw [hc]
  have HA := Lib.hid hA; have HK := Lib.hid K; have HN := Lib.hid hn; have HC := Lib.hid hcn
  have hI : InvU n [((s, t), [])] := ⟨fun x hx => by rw [List.mem_singleton.1 hx]; exact ⟨hs, ht⟩, by simp⟩
  have hG : goU true r 90001 0 [((s, t), [])] = R := hR
  have HI := Lib.hid hI; have HG := Lib.hid hG
  have HW := Lib.hid (show WBd 0 [((s, t), [])] from fun x hx => by rw [List.mem_singleton.1 hx]; exact Nat.le_refl _)
  have HU := Lib.hid (RelU.one s t)
  have hs6 : s < 1000000 := by omega
  have ht6 : t < 1000000 := by omega
  clear K hc hcn hn hA hR hI hG
  have S := (Star.nil w).alloc (cs := #[.int .i64 (s : Nat), .int .i64 (t : Nat)]) (ty := 95)
  go_enter Try.func55, Try.ntmps55
  go_wp2_with fail
  generalize hW : w.alloc _ = w0 at S ⊢
  obtain ⟨g5, hg5⟩ : ∃ g, g = w.heap.size := ⟨_, rfl⟩
  rw [← hg5] at S ⊢
  clear hW hg5
  go_cut [10, 11] (fun s10 s11 wx => ∃ (gf gm : Nat), s10 = .slice (some ⟨gf, 0, none⟩) 1 1 ∧ s11 = .map (some gm) ∧ Star w wx [oSet gm [((s, t), [])], oB gf [.int .i64 (s : Nat), .int .i64 (t : Nat), .int .i64 (-1), .int .i64 0] 106])
  case first =>
    refine wp_region_p [] 9 (by kernel_rfl) rfl ?_
    intro w5 b5
    replace S := S.step b5
    clear b5
    have x0 := (S.blk 0 rfl).cell 0 rfl
    have x1 := (S.blk 0 rfl).cell 1 rfl
    have gl1 := (S.blk 0 rfl).lt
    have hov := cell_over w5
    refine wpP_read 0 rfl rfl (by kernel_rfl) rfl (fun _ d _ _ _ h => by cases d <;> exact h) ?_
    go_big_quiet_step (fail)
    refine wpQuiet_nil ?_
    refine wpP_read 1 rfl rfl (by kernel_rfl) rfl (fun _ d _ _ _ h => by cases d <;> exact h) ?_
    go_big_quiet_step (fail)
    refine wpQuiet_nil ?_
    refine wpP_read 4 rfl rfl (by kernel_rfl) rfl (fun _ d _ _ _ h => by cases d <;> exact h) ?_
    go_big_quiet_step (fail)
    refine wpQuiet_nil ?_
    clear x0 x1 gl1 hov
    have SL := Star.nil w5
    refine wpP_ready [2, 3] (by kernel_rfl) (by decide) (AllP.cons rfl (fun wB bB K hK => ?_) (AllP.cons rfl (fun wA bA K hK => ?_) AllP.nil))
    · replace SL := SL.step bB
      have hBB := (leN.of_below (Nat.le_refl _) (Nat.le_refl _) SL.below).hi
      go_simp
      refine hK _ _ (.inr (leN.of_le hBB ((Below.refl wB.heap.size wB).alloc (Nat.le_refl _) _))) ?_
      replace SL := SL.alloc (cs := #[.int .i64 (s : Nat), .int .i64 (t : Nat), .int .i64 (-1), .int .i64 0]) (ty := 106)
      clear hK K hBB
      generalize hWB : wB.alloc _ = wB2 at SL ⊢
      clear hWB bB
      obtain ⟨gf, hgf⟩ : ∃ g, g = wB.heap.size := ⟨_, rfl⟩
      rw [← hgf] at SL ⊢
      clear hgf
      have NB := (leN.of_below (Nat.le_refl _) (Nat.le_refl _) SL.below).hi
      refine wpP_pure 7 rfl rfl (by kernel_rfl) NB (fun _ d _ _ _ h => by cases d <;> exact h) ?_
      go_big_quiet_step (fail)
      refine wpQuiet_nil ?_
      clear NB
      refine wpP_ready [3] (by kernel_rfl) (by decide) (AllP.cons rfl (fun wA bA K hK => ?_) AllP.nil)
      replace SL := SL.step bA
      have LA := leN.of_below (Nat.le_refl _) (Nat.le_refl _) SL.below
      go_simp
      refine hK _ _ (.inr (leN.of_le LA.hi ((Below.refl wA.heap.size wA).alloc (Nat.le_refl _) _))) ?_
      replace SL : Star w5 ({ heap := wA.heap.push (Obj.map #[] 0), tape := wA.tape, drawn := wA.drawn, os := wA.os, output := wA.output } : World) _ := SL.allocSet
      clear hK K LA
      generalize hWA : ({ heap := wA.heap.push (Obj.map #[] 0), tape := wA.tape, drawn := wA.drawn, os := wA.os, output := wA.output } : World) = wA2 at SL ⊢
      clear hWA bA
      obtain ⟨gm, hgm⟩ : ∃ g, g = wA.heap.size := ⟨_, rfl⟩
      rw [← hgm] at SL ⊢
      clear hgm
      refine wpP_ready [5] (by kernel_rfl) (by decide) (AllP.cons rfl (fun wA bA K hK => ?_) AllP.nil)
      replace SL := SL.step bA
      have LA := leN.of_below (Nat.le_refl _) (Nat.le_refl _) SL.below
      have SM := SL
      clear SL
      refine sst_put [] SM rfl rfl rfl rfl rfl hs6 ht6 (by decide) ?_
      intro w9 SL
      have LB := leN.of_below (Nat.le_refl _) (Nat.le_refl _) SL.below
      try go_simp
      refine hK _ _ (.inr (LA.symm.trans LB)) ?_
      clear hK K LA LB SM bA
      have NB := (leN.of_below (Nat.le_refl _) (Nat.le_refl _) SL.below).hi
      refine wpP_pure 6 rfl rfl (by kernel_rfl) NB (fun _ d _ _ _ h => by cases d <;> exact h) ?_
      go_big_quiet_step (fail)
      refine wpQuiet_nil ?_
      clear NB
      have NB := (leN.of_below (Nat.le_refl _) (Nat.le_refl _) SL.below).hi
      refine wpP_pure 8 rfl rfl (by kernel_rfl) NB (fun _ d _ _ _ h => by cases d <;> exact h) ?_
      go_big_quiet_step (fail)
      refine wpQuiet_nil ?_
      clear NB
      refine wpP_done (by kernel_rfl) (fun wE bE => ?_)
      replace S := (S.mergeU (SL.step bE)).sel [0, 1]
      clear bE SL
      go_wp2
      go_meet
      exact ⟨_, _, rfl, rfl, S⟩
    · replace SL := SL.step bA
      have LA := leN.of_below (Nat.le_refl _) (Nat.le_refl _) SL.below
      go_simp
      refine hK _ _ (.inr (leN.of_le LA.hi ((Below.refl wA.heap.size wA).alloc (Nat.le_refl _) _))) ?_
      replace SL : Star w5 ({ heap := wA.heap.push (Obj.map #[] 0), tape := wA.tape, drawn := wA.drawn, os := wA.os, output := wA.output } : World) _ := SL.allocSet
      clear hK K LA
      generalize hWA : ({ heap := wA.heap.push (Obj.map #[] 0), tape := wA.tape, drawn := wA.drawn, os := wA.os, output := wA.output } : World) = wA2 at SL ⊢
      clear hWA bA
      obtain ⟨gm, hgm⟩ : ∃ g, g = wA.heap.size := ⟨_, rfl⟩
      rw [← hgm] at SL ⊢
      clear hgm
      refine wpP_ready [2, 5] (by kernel_rfl) (by decide) (AllP.cons rfl (fun wB bB K hK => ?_) (AllP.cons rfl (fun wA bA K hK => ?_) AllP.nil))
      · replace SL := SL.step bB
        have hBB := (leN.of_below (Nat.le_refl _) (Nat.le_refl _) SL.below).hi
        go_simp
        refine hK _ _ (.inr (leN.of_le hBB ((Below.refl wB.heap.size wB).alloc (Nat.le_refl _) _))) ?_
        replace SL := SL.alloc (cs := #[.int .i64 (s : Nat), .int .i64 (t : Nat), .int .i64 (-1), .int .i64 0]) (ty := 106)
        clear hK K hBB
        generalize hWB : wB.alloc _ = wB2 at SL ⊢
        clear hWB bB
        obtain ⟨gf, hgf⟩ : ∃ g, g = wB.heap.size := ⟨_, rfl⟩
        rw [← hgf] at SL ⊢
        clear hgf
        replace SL := SL.sel [1, 0]
        have NB := (leN.of_below (Nat.le_refl _) (Nat.le_refl _) SL.below).hi
        refine wpP_pure 7 rfl rfl (by kernel_rfl) NB (fun _ d _ _ _ h => by cases d <;> exact h) ?_
        go_big_quiet_step (fail)
        refine wpQuiet_nil ?_
        clear NB
        refine wpP_ready [5] (by kernel_rfl) (by decide) (AllP.cons rfl (fun wA bA K hK => ?_) AllP.nil)
        replace SL := SL.step bA
        have LA := leN.of_below (Nat.le_refl _) (Nat.le_refl _) SL.below
        have SM := SL
        clear SL
        refine sst_put [] SM rfl rfl rfl rfl rfl hs6 ht6 (by decide) ?_
        intro w9 SL
        have LB := leN.of_below (Nat.le_refl _) (Nat.le_refl _) SL.below
        try go_simp
        refine hK _ _ (.inr (LA.symm.trans LB)) ?_
        clear hK K LA LB SM bA
        have NB := (leN.of_below (Nat.le_refl _) (Nat.le_refl _) SL.below).hi
        refine wpP_pure 6 rfl rfl (by kernel_rfl) NB (fun _ d _ _ _ h => by cases d <;> exact h) ?_
        go_big_quiet_step (fail)
        refine wpQuiet_nil ?_
        clear NB
        have NB := (leN.of_below (Nat.le_refl _) (Nat.le_refl _) SL.below).hi
        refine wpP_pure 8 rfl rfl (by kernel_rfl) NB (fun _ d _ _ _ h => by cases d <;> exact h) ?_
        go_big_quiet_step (fail)
        refine wpQuiet_nil ?_
        clear NB
        refine wpP_done (by kernel_rfl) (fun wE bE => ?_)
        replace S := (S.mergeU (SL.step bE)).sel [0, 1]
        clear bE SL
        go_wp2
        go_meet
        exact ⟨_, _, rfl, rfl, S⟩
      · replace SL := SL.step bA
        have LA := leN.of_below (Nat.le_refl _) (Nat.le_refl _) SL.below
        have SM := SL
        clear SL
        refine sst_put [] SM rfl rfl rfl rfl rfl hs6 ht6 (by decide) ?_
        intro w9 SL
        have LB := leN.of_below (Nat.le_refl _) (Nat.le_refl _) SL.below
        try go_simp
        refine hK _ _ (.inr (LA.symm.trans LB)) ?_
        clear hK K LA LB SM bA
        have NB := (leN.of_below (Nat.le_refl _) (Nat.le_refl _) SL.below).hi
        refine wpP_pure 6 rfl rfl (by kernel_rfl) NB (fun _ d _ _ _ h => by cases d <;> exact h) ?_
        go_big_quiet_step (fail)
        refine wpQuiet_nil ?_
        clear NB
        refine wpP_ready [2] (by kernel_rfl) (by decide) (AllP.cons rfl (fun wB bB K hK => ?_) AllP.nil)
        replace SL := SL.step bB
        have hBB := (leN.of_below (Nat.le_refl _) (Nat.le_refl _) SL.below).hi
        go_simp
        refine hK _ _ (.inr (leN.of_le hBB ((Below.refl wB.heap.size wB).alloc (Nat.le_refl _) _))) ?_
        replace SL := SL.alloc (cs := #[.int .i64 (s : Nat), .int .i64 (t : Nat), .int .i64 (-1), .int .i64 0]) (ty := 106)
        clear hK K hBB
        generalize hWB : wB.alloc _ = wB2 at SL ⊢
        clear hWB bB
        obtain ⟨gf, hgf⟩ : ∃ g, g = wB.heap.size := ⟨_, rfl⟩
        rw [← hgf] at SL ⊢
        clear hgf
        replace SL := SL.sel [1, 0]
        have NB := (leN.of_below (Nat.le_refl _) (Nat.le_refl _) SL.below).hi
        refine wpP_pure 7 rfl rfl (by kernel_rfl) NB (fun _ d _ _ _ h => by cases d <;> exact h) ?_
        go_big_quiet_step (fail)
        refine wpQuiet_nil ?_
        clear NB
        have NB := (leN.of_below (Nat.le_refl _) (Nat.le_refl _) SL.below).hi
        refine wpP_pure 8 rfl rfl (by kernel_rfl) NB (fun _ d _ _ _ h => by cases d <;> exact h) ?_
        go_big_quiet_step (fail)
        refine wpQuiet_nil ?_
        clear NB
        refine wpP_done (by kernel_rfl) (fun wE bE => ?_)
        replace S := (S.mergeU (SL.step bE)).sel [0, 1]
        clear bE SL
        go_wp2
        go_meet
        exact ⟨_, _, rfl, rfl, S⟩
  case rest =>
    clear S
    obtain ⟨gf, gm, rfl, rfl, S⟩ := hcut
    have bs : bd64 ((s : Nat) : Int) := ⟨by omega, by omega⟩
    have bt' : bd64 ((t : Nat) : Int) := ⟨by omega, by omega⟩
    have S1 := (S.sel [1, 0]).lits (E := fndE) [⟨(s : Nat), (t : Nat), -1, 0⟩] (fun x => [.int .i64 x.s, .int .i64 x.t, .int .i64 x.before, .int .i64 x.letter]) 1 rfl rfl (fun x hx => by rw [List.mem_singleton.1 hx]; exact ow_fnd bs bt' (show bd64 (-1) from ⟨by decide, by decide⟩) (show bd64 0 from ⟨by decide, by decide⟩) _) (by simp [maxLen])
    clear S
    go_wp2
    go_loopw [10, 12] (fun vl q wr => ∃ (i : Nat) (v : Value) (L : List PW) (M : List Fnd), i ≤ L.length ∧ 0 < L.length ∧ vl = v ∧ q = .int .i64 i ∧ Star w wr [oE (sliceE fndE 106) [v] M, oSet gm L] ∧ Hid (goU true r (90001 - i) i L = R) ∧ Hid (InvU n L) ∧ Hid (WBd i L) ∧ Hid (RelU L M)) (fun _ q _ => 90001 - (intOf q).toNat)
    case atStart => exact ⟨0, _, [((s, t), [])], _, Nat.zero_le _, Nat.zero_lt_one, rfl, rfl, S1, HG, HI, HW, HU⟩
    case round =>
      clear S1 HG HI HW HU
      obtain ⟨i, v, L, M, hi, hpos, rfl, rfl, S, HG, HI, HW, HU⟩ := hrel
      have hlen := HI.out.len
      obtain ⟨lb, lo, lc, rfl, q1, q2, q4⟩ := S.wide 0 rfl (by rw [HU.out.len]; exact hpos)
      rw [HU.out.len] at q1 S ⊢
      obtain ⟨m, hm⟩ : ∃ m, m = L.length := ⟨_, rfl⟩
      rw [← hm] at hi hlen q1 S hpos ⊢
      have HM := Lib.hid hm
      clear hm
      by_cases hlt : i < m
      case neg =>
        obtain rfl : i = m := by omega
        obtain rfl : R = none := by
          have h := HG.out
          rw [show 90001 - i = (90000 - i) + 1 from by omega, goU, List.getElem?_eq_none_iff.2 (by rw [← HM.out]; exact Nat.le_refl _)] at h
          exact h.symm
        go_wp2
        go_ret2
        exact ⟨rfl, S.below⟩
      have hil : i < L.length := by rw [← HM.out]; exact hlt
      obtain ⟨⟨⟨p, q⟩, wd⟩, he⟩ : ∃ e, e = L[i] := ⟨_, rfl⟩
      have hge : L[i]? = some ((p, q), wd) := by rw [he]; exact List.getElem?_eq_getElem hil
      have hmem : (((p, q), wd) : PW) ∈ L := List.mem_of_getElem? hge
      have hG2 : (if accU r p != accU r q then some wd else goU true r (90001 - (i + 1)) (i + 1) (extU true r ((p, q), wd) L c)) = R := by
        have h := HG.out
        rw [show 90001 - i = (90001 - (i + 1)) + 1 from by omega, goU, hge, HC.out] at h
        exact h
      obtain ⟨hp, hq⟩ := HI.out.lt _ hmem
      have hwl : wd.length ≤ i := HW.out _ hmem
      have hIk : ∀ k, k ≤ c → InvU n (extU true r ((p, q), wd) L k) := fun k hk => HI.out.extU k fun l hl => by
        have h1 := (HK.out.next (a := p) (l := l) (by rw [← HN.out]; exact hp) (by rw [HC.out]; omega)).2
        have h2 := (HK.out.next (a := q) (l := l) (by rw [← HN.out]; exact hq) (by rw [HC.out]; omega)).2
        rw [← HN.out] at h1 h2
        exact ⟨h1, h2⟩
      have hWk : ∀ k, WBd (i + 1) (extU true r ((p, q), wd) L k) := (HW.out.mono (Nat.le_succ _)).extU (by show wd.length < i + 1; omega)
      obtain ⟨f, f1, f2, f3, f4⟩ := HU.out.get i _ hge
      obtain ⟨xs, x1, x2⟩ := q4 i _ f1
      obtain rfl := rd_fnd x1
      have hsz : fndE.size = 4 := rfl
      rw [hsz] at x2
      rw [f2, f3] at x2
      have y0 : wr.cell? ⟨lb, lo + i * 4, none⟩ = some (.int .i64 (p : Int)) := by have := x2 0 _ rfl; simpa [Nat.add_assoc] using this
      have y1 : wr.cell? ⟨lb, lo + i * 4 + 1, none⟩ = some (.int .i64 (q : Int)) := by have := x2 1 _ rfl; simpa [Nat.add_assoc] using this
      have HGE := Lib.hid hge; have HIK := Lib.hid hIk; have HWK := Lib.hid hWk
      clear x1 x2 f1 f2 f3 f4 hmem hIk hWk he hil HG HW hge
      have i1 : (0 : Int) ≤ (i : Int) := by omega
      have i2 : (i : Int) < (m : Int) := by omega
      have hRA := Lib.hid (HA.out.of (S.below.mono (Nat.le_refl _)))
      have hG3 := hG2
      obtain ⟨bt, hbt⟩ : ∃ b, b = (accU r p != accU r q) := ⟨_, rfl⟩
      rw [← hbt] at hG3
      have HG3 := Lib.hid hG3
      have HIS := Lib.hid (isC_any r p q g wr hRA.out (by rw [← HN.out]; exact hp) (by rw [← HN.out]; exact hq))
      rw [← hbt] at HIS
      clear hG2 hG3 hbt q4
      go_wp2_with fail
      refine HIS.out.mono ?_
      rintro e w2 ⟨rfl, b2⟩
      have z0 := (b2.cell (World.block_lt_of_cell? wr _ y0)).trans y0
      have z1 := (b2.cell (World.block_lt_of_cell? wr _ y1)).trans y1
      replace S := S.step b2
      clear b2 y0 y1 HIS
      cases bt
      case true =>
        obtain rfl : R = some wd := HG3.out.symm
        clear HG3 z0 z1 HIK HWK
        replace S := ((S.alloc (cs := #[]) (ty := 5)).lit0 (α := Int) (E := byteE))
        go_wp2
        generalize hW : w2.alloc _ = w3 at S ⊢
        obtain ⟨g13, hg13⟩ : ∃ g, g = w2.heap.size := ⟨_, rfl⟩
        rw [← hg13] at S ⊢
        clear hW hg13
        go_loopw [13, 14] (fun vo q' wr => ∃ (k gb cb : Nat) (out : List UInt8) (x : PW), vo = .slice (some ⟨gb, 0, none⟩) out.length cb ∧ q' = .int .i64 k ∧ Star w wr [oE bytesE [.slice (some ⟨gb, 0, none⟩) out.length cb] (intB out), oE (sliceE fndE 106) [.slice (some ⟨lb, lo, none⟩) m lc] M, oSet gm L] ∧ Hid (L[k]? = some x) ∧ Hid (wd = x.2 ++ out.reverse)) (fun _ q' _ => (intOf q').toNat)
        case atStart => exact ⟨i, _, _, [], _, rfl, rfl, S, HGE, Lib.hid (by simp)⟩
        case round =>
          clear S HGE
          obtain ⟨k, gb, cb, out, x, rfl, rfl, S, HX, HWD⟩ := hrel
          have hol : out.length ≤ 90000 := by
            have h := congrArg List.length HWD.out
            rw [List.length_append, List.length_reverse] at h
            omega
          obtain ⟨f, f1, f2, f3, f4⟩ := HU.out.get k x HX.out
          obtain ⟨-, -, y2, y3⟩ := S.fnd 1 rfl f1
          have HF1 := Lib.hid f1
          have hkl : k < m := by rw [HM.out]; exact (List.getElem?_eq_some_iff.1 HX.out).1
          have i3 : (0 : Int) ≤ (k : Int) := by omega
          have i4 : (k : Int) < (m : Int) := by omega
          clear f1 f2 f3
          rcases f4 with ⟨hb, hx⟩ | ⟨j, y, l, hj, hb, hy, hl3, hl, hx⟩
          · rw [hb] at y2
            have hwd2 : wd = out.reverse := by rw [HWD.out, hx]; rfl
            have HWD2 := Lib.hid hwd2
            clear hb hx hwd2
            go_wp2_with fail
            clear y2 y3
            obtain ⟨fo, oo⟩ := S.own 0 rfl
            have hfo := (ow_set1 (E := byteE) rfl flat_byte oo 0 (u := .int .u8 0) (y := 0) (fun _ => ⟨⟨rfl, by decide⟩, rfl⟩)).2
            refine (reverse_any gb out.length cb (intB out) fo wr (by simp [intB]) (by omega) oo).mono ?_
            rintro e w5 ⟨rfl, o5, b5⟩
            replace S := S.upd (P' := oE bytesE [.slice (some ⟨gb, 0, none⟩) out.length cb] (intB out).reverse) (w' := w5) (fun f2 hf nd hlt => by
              have h2 : f2 = fo := by
                rw [hfo]
                exact (ow_set1 (E := byteE) rfl flat_byte (show bytesE.ow wr [.slice (some ⟨gb, 0, none⟩) out.length cb] (intB out) f2 from hf) 0 (u := .int .u8 0) (y := 0) (fun _ => ⟨⟨rfl, by decide⟩, rfl⟩)).2
              subst h2
              exact ⟨f2, o5, nd, fun b hb => .inl hb, fun b hb => Nat.lt_of_lt_of_le (hlt b hb) b5.size, b5⟩)
            clear oo hfo o5 b5
            obtain ⟨a', cap', hv, -, -, -, k4⟩ := rd_bytes (S.rd 0 rfl)
            simp only [Value.slice.injEq] at hv
            obtain ⟨ha', -, -⟩ := hv
            have hcv := run_convert_bytes_back (P := Try.prog) w5 87 9 5 ⟨gb, 0, none⟩ cb out.reverse Try.underlying87 Try.underlying5 Try.underlying9 (fun j hj => by
              have hj2 : j < (intB out).reverse.length := by simpa [intB] using hj
              obtain ⟨b, o, e1, -, e2, -⟩ := k4 j hj2
              rw [← ha'] at e1
              simp only [Option.some.injEq, Addr.mk.injEq, and_true] at e1
              obtain ⟨rfl, rfl⟩ := e1
              rw [Addr.add_lit]
              rw [e2]
              congr 2
              have hj3 : j < out.reverse.length := hj
              have e9 : (intB out).reverse = out.reverse.map fun b => (b.toNat : Int) := by unfold intB; rw [List.map_reverse]
              rw [e9, List.getElem?_map, List.getElem?_eq_getElem hj3]
              rfl)
            rw [List.length_reverse] at hcv
            clear k4 ha'
            go_wp2
            go_ret2
            exact ⟨by rw [HWD2.out]; rfl, S.below⟩
          · rw [hb] at y2
            rw [hl] at y3
            have HY := Lib.hid hy; have HB := Lib.hid hb
            have HWD2 : Hid (wd = y.2 ++ (out ++ [UInt8.ofNat (97 + l)]).reverse) := Lib.hid (by rw [HWD.out, hx]; simp only [List.reverse_append, List.reverse_singleton, List.append_assoc])
            obtain ⟨d, hd⟩ : ∃ d, d = UInt8.ofNat (97 + l) := ⟨_, rfl⟩
            have hdn : (d.toNat : Int) = 97 + (l : Int) := by
              rw [hd, UInt8.toNat_ofNat']
              have : (97 + l) % 2 ^ 8 = 97 + l := Nat.mod_eq_of_lt (by omega)
              omega
            rw [← hd] at HWD2
            have hib : intB (out ++ [d]) = intB out ++ [97 + (l : Int)] := by unfold intB; rw [List.map_append, ← hdn]; rfl
            have HIB := Lib.hid hib
            clear hb hx hy hl hd hdn hib HX HWD
            have wa : IntKind.u8.wrap (l : Int) = (l : Int) := IntWalk.u8_in _ ⟨by omega, by omega⟩
            have wb : IntKind.u8.wrap (97 + (l : Int)) = 97 + (l : Int) := IntWalk.u8_in _ ⟨by omega, by omega⟩
            have hll : (intB out).length ≤ 1000000000000 := by unfold intB; rw [List.length_map]; omega
            have SB := ((S.alloc (cs := #[.int .u8 (97 + (l : Int))]) (ty := 5)).byte (x := 97 + (l : Int)) ⟨by omega, by omega⟩).sel [2, 0, 3, 4]
            go_wp2_with (at_builtin; refine st1_ByteS SB rfl rfl rfl rfl cell_a1 (one_mem rfl) hll ?_; intro ja jn jc w9 S9; have y9 := (S9.fnd 1 rfl HF1.out).2.2.1; rw [HB.out] at y9)
            obtain ⟨f9, o9⟩ := S9.own 0 rfl
            obtain ⟨gb2, cb2, hv9, -, -, -, -⟩ := ow_slice0 o9 (by simp)
            simp only [Value.slice.injEq] at hv9
            obtain ⟨rfl, rfl, rfl⟩ := hv9
            have hl9 : (intB out ++ [97 + (l : Int)]).length = (out ++ [d]).length := by simp [intB]
            rw [hl9] at S9 ⊢
            rw [← HIB.out] at S9
            go_roundw
            case rel => exact ⟨j, gb2, _, out ++ [d], y, rfl, rfl, S9, HY, HWD2⟩
            case measure => simp [intOf]; omega
      have hG4 : goU true r (90001 - (i + 1)) (i + 1) (extU true r ((p, q), wd) L c) = R := HG3.out
      have HG4 := Lib.hid hG4
      clear hG4 HG3 z0 z1
      have hle : i + 1 ≤ (extU true r ((p, q), wd) L c).length := by
        obtain ⟨X, hX⟩ := extU_pre true r ((p, q), wd) L c
        rw [hX, List.length_append, ← HM.out]; omega
      have HLE := Lib.hid hle
      have hget : ∀ k, (extU true r ((p, q), wd) L k)[i]? = some ((p, q), wd) := fun k => by
        obtain ⟨X, hX⟩ := extU_pre true r ((p, q), wd) L k
        rw [hX, List.getElem?_append_left (by rw [← HM.out]; exact hlt)]
        exact HGE.out
      have HGET := Lib.hid hget
      clear hle hget HGE
      go_wp2
      go_loopw [10, 64] (fun vl q' wr => ∃ (k : Nat) (v : Value) (Mk : List Fnd), k ≤ c ∧ vl = v ∧ q' = .int .i64 k ∧ Star w wr [oE (sliceE fndE 106) [v] Mk, oSet gm (extU true r ((p, q), wd) L k)] ∧ Hid (RelU (extU true r ((p, q), wd) L k) Mk)) (fun _ q' _ => c - (intOf q').toNat)
      case atStart => exact ⟨0, _, M, Nat.zero_le _, rfl, rfl, S, HU⟩
      case round =>
        clear S HU
        obtain ⟨k, v, Mk, hk, rfl, rfl, S, HU⟩ := hrel
        obtain ⟨va, vn, vc, rfl⟩ := S.slc 0 rfl
        by_cases hkl : k < c
        case neg =>
          obtain rfl : c = k := by omega
          go_wp2
          go_roundw
          case rel => exact ⟨i + 1, _, _, Mk, HLE.out, by have := HLE.out; omega, rfl, by go_num, S, HG4, Lib.hid (HIK.out c (Nat.le_refl _)), Lib.hid (HWK.out c), HU⟩
          case measure => simp [intOf]; omega
        have hIl := (HIK.out k hk).len
        obtain ⟨f, f1, f2, f3, -⟩ := HU.out.get i _ (HGET.out k)
        have hml := HU.out.len
        have him : i < Mk.length := (List.getElem?_eq_some_iff.1 f1).1
        obtain ⟨kb, ko, kc, hv, u1, u2, -⟩ := S.wide 0 rfl (Nat.lt_of_le_of_lt (Nat.zero_le _) him)
        simp only [Value.slice.injEq] at hv
        obtain ⟨rfl, rfl, rfl⟩ := hv
        obtain ⟨mk, hmk⟩ : ∃ x, x = Mk.length := ⟨_, rfl⟩
        rw [← hmk] at S him u1 hml ⊢
        obtain ⟨y0, y1, -, -⟩ := S.fnd 0 rfl f1
        rw [f2] at y0
        rw [f3] at y1
        have hsu := extU_succ true r ((p, q), wd) L k
        have hpu : pairU r ((p, q), wd) k = (nxtU r p k, nxtU r q k) := rfl
        unfold ext1 at hsu
        rw [hpu] at hsu
        have hRA := Lib.hid (HA.out.of (S.below.mono (Nat.le_refl _)))
        have HST := Lib.hid (stepC_any r p q k g wr hRA.out (by rw [← HN.out]; exact hp) (by rw [← HN.out]; exact hq) (by rw [HC.out]; exact hkl))
        have hla := (HK.out.next (a := p) (l := k) (by rw [← HN.out]; exact hp) (by rw [HC.out]; exact hkl)).2
        have hlb := (HK.out.next (a := q) (l := k) (by rw [← HN.out]; exact hq) (by rw [HC.out]; exact hkl)).2
        obtain ⟨a', ha'⟩ : ∃ y, y = nxtU r p k := ⟨_, rfl⟩
        obtain ⟨b', hb'⟩ : ∃ y, y = nxtU r q k := ⟨_, rfl⟩
        rw [← ha'] at hsu hla HST
        rw [← hb'] at hsu hlb HST
        rw [← HN.out] at hla hlb
        obtain ⟨Lk, hLk⟩ : ∃ y, y = extU true r ((p, q), wd) L k := ⟨_, rfl⟩
        have HGK := Lib.hid (HGET.out k)
        rw [← hLk] at hsu hIl S hml HGK HU
        have HSU := Lib.hid hsu
        clear hsu hpu ha' hb' hLk hmk hml f1 f2 f3
        have i3 : (0 : Int) ≤ (i : Int) := by omega
        have i4 : (i : Int) < (mk : Int) := by omega
        have ha6 : a' < 1000000 := by omega
        have hb6 : b' < 1000000 := by omega
        have hLl : Lk.length < 1000000000000 := by omega
        have ba : bd64 ((a' : Nat) : Int) := ⟨by omega, by omega⟩
        have bb : bd64 ((b' : Nat) : Int) := ⟨by omega, by omega⟩
        have bi : bd64 ((i : Nat) : Int) := ⟨by omega, by omega⟩
        have bk : bd64 ((k : Nat) : Int) := ⟨by omega, by omega⟩
        have hll : Mk.length ≤ 1000000000000 := by rw [HU.out.len]; omega
        go_wp2_with fail
        refine HST.out.mono ?_
        rintro e w2 ⟨rfl, b2⟩
        replace S := S.step b2
        clear b2 y0 y1 HST
        replace S := S.alloc (cs := #[.int .i64 (a' : Nat), .int .i64 (b' : Nat)]) (ty := 95)
        cases hmet : (Lk.any fun x => x.1 == (a', b'))
        case true =>
          have hE : extU true r ((p, q), wd) L (k + 1) = Lk := by
            rw [HSU.out, hmet]; simp
          have HE := Lib.hid hE
          have HMET := Lib.hid hmet
          clear hE hmet
          go_wp2_with (at_lookup; refine st_look S 2 rfl rfl rfl rfl rfl ha6 hb6 ?_; rw [HMET.out])
          go_roundw
          case rel => exact ⟨k + 1, _, Mk, by omega, rfl, by go_num, by rw [HE.out]; exact S.sel [1, 2], by rw [HE.out]; exact HU⟩
          case measure => simp [intOf]; omega
        have hE : extU true r ((p, q), wd) L (k + 1) = Lk ++ [((a', b'), wd ++ [UInt8.ofNat (97 + k)])] := by
          rw [HSU.out, hmet]; rfl
        have HE := Lib.hid hE
        have HMET := Lib.hid hmet
        have HU2 := Lib.hid (HU.out.snoc (i := i) (l := k) HGK.out (by omega) a' b')
        clear hE hmet
        have e0 := (S.blk 0 rfl).cell 0 rfl
        have e1 := (S.blk 0 rfl).cell 1 rfl
        have SP := S.sel [2, 1, 0]
        go_wp2_with (first
          | (at_builtin
             refine st1_FndS SC rfl rfl rfl rfl cell_a1 (by intro u hu; simp at hu; rcases hu with rfl | rfl | rfl | rfl <;> rfl) hll ?_
             intro ja jn jc w9 S9)
          | (at_mapUpdate
             refine st_put (wd ++ [UInt8.ofNat (97 + k)]) SP rfl rfl rfl rfl rfl ha6 hb6 hLl ?_
             intro w7 S7
             have x0 := (S7.blk 2 rfl).cell 0 rfl
             have x1 := (S7.blk 2 rfl).cell 1 rfl
             have SC := ((S7.alloc (cs := #[.int .i64 (a' : Nat), .int .i64 (b' : Nat), .int .i64 (i : Nat), .int .i64 (k : Nat)]) (ty := 106)).flat (ow_fnd (x := ⟨a', b', i, k⟩) ba bb bi bk _)).sel [3, 0, 2])
          | (at_lookup
             refine st_look S 2 rfl rfl rfl rfl rfl ha6 hb6 ?_
             rw [HMET.out]))
        go_roundw
        case rel => exact ⟨k + 1, _, _, by omega, rfl, by go_num, by rw [HE.out]; exact S9, by rw [HE.out]; exact HU2⟩
        case measure => simp [intOf]; omega

end Go.Proofs.Ytmbecaiieibcjaa
