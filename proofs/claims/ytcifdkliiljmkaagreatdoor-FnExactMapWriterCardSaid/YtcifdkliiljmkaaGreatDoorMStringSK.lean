/-
  The laws' own markStringS and heldStringS (written by a program of this claim's own, gen_mstrs.py).
-/
import Derived.Test.YtcifdkliiljmkaaGreatDoorMTextK
import Derived.Test.YtcifdkliiljmkaaGreatDoorPackA
namespace Go.Proofs.YtcifdkliiljmkaaGreatDoor
open Go.RowKit

def strsM : Mk (List ByteArray) := ⟨fun l k => ∀ i, i < l.length → l[i]?.getD ByteArray.empty = mText (k + i), List.length⟩

theorem mtLoop_size (K : Nat) (hK : K ≤ 4611686018427387904) : ∀ n q out, q ≤ n → out.size ≤ 19 → (0 < q → q * 10 ^ out.size ≤ K) → (mtLoop q out).size ≤ 19 := by
  intro n
  induction n with
  | zero => intro q out hq hs _; obtain rfl : q = 0 := by omega
            rw [mtLoop_zero]; exact hs
  | succ n ih =>
    intro q out hq hs hp
    by_cases h : 0 < q
    · have h18 := ten_pow h (hp h) hK
      rw [mtLoop_pos h]
      have hsz : ((⟨#[UInt8.ofNat (48 + q % 10)]⟩ : ByteArray) ++ out).size = out.size + 1 := by rw [ByteArray.size_append]; exact Nat.add_comm _ _
      refine ih _ _ (by omega) (by rw [hsz]; omega) (fun _ => ?_)
      rw [hsz, Nat.pow_succ, Nat.mul_comm (10 ^ out.size) 10, ← Nat.mul_assoc]
      exact Nat.le_trans (Nat.mul_le_mul_right _ (by omega)) (hp h)
    · obtain rfl : q = 0 := by omega
      rw [mtLoop_zero]; exact hs

theorem mText_size (k : Int) (hk : 0 < k) (hk2 : k ≤ 4611686018427387904) : (mText k).size ≤ 20 := by
  unfold mText
  have := mtLoop_size k.toNat (by omega) k.toNat k.toNat ⟨#[]⟩ (Nat.le_refl _) (by decide) (fun _ => by rw [show (ByteArray.mk #[]).size = 0 from rfl]; omega)
  have h1 : (ByteArray.mk #[109]).size = 1 := rfl
  rw [ByteArray.size_append, h1]
  omega

set_option maxHeartbeats 400000 in
theorem markStringS_any (v : Value) (l : List ByteArray) (fp : List Nat) (k0 : Int) (w : World) (h : strsE.ow w [v] l fp) (h0 : 0 < k0) (h1 : k0 + l.length ≤ 4611686018427387904) :
    Calls Tryz.prog 23 #[v, .int .i64 k0] w (Marks strsE strsM [v] l fp k0 w) := by
  obtain ⟨n, hn⟩ : ∃ n, n = l.length := ⟨_, rfl⟩
  obtain ⟨rfl, hO, hE⟩ := ow_flat_inv (E := strE) (Value.string) rfl (fun _ _ _ _ h => ⟨h.1.1, h.2⟩) h
  rw [← hn] at hO h1
  clear h
  have Hn := Lib.hid hn; clear hn
  rcases hO.2 with ⟨rfl, h00⟩ | ⟨g, cap, cur, rfl, -, -, hnc, hcm, -⟩
  · have hl0 := Lib.hid (List.eq_nil_of_length_eq_zero (by rw [← Hn.out]; exact h00))
    subst h00
    have HO := Lib.hid hO; clear hO
    go_enter Tryz.func23, Tryz.ntmps23
    go_wp2
    go_loop [1, 5] (fun k i => i = .int .i64 0 ∧ k = .int .i64 k0) (fun _ _ => 0)
    case atStart => exact ⟨rfl, rfl⟩
    case round =>
      obtain ⟨rfl, rfl⟩ := hrel
      go_wp2
      go_ret
      have e := hl0.out
      subst e
      exact marks_nil (ow_flat (Value.string) rfl (fun x hx => by cases hx) HO.out) (fun i hi => absurd hi (by simp)) rfl
  · have HE := Lib.hid hE; clear hE
    simp only [maxLen] at hcm
    go_enter Tryz.func23, Tryz.ntmps23
    go_wp2
    go_loopw [1, 5] (fun k i wr => ∃ j : Nat, ∃ l' : List ByteArray, j ≤ n ∧ i = .int .i64 j ∧ k = .int .i64 (k0 + j) ∧ But [g] w wr ∧ Hid (l'.length = n) ∧ wr.ownsRow 0 9 1 (.slice (some ⟨g, 0, none⟩) n cap) n (l'.map (Value.string)) ∧ Hid (∀ i, i < j → l'[i]?.getD ByteArray.empty = mText (k0 + i))) (fun _ i _ => n - (intOf i).toNat)
    case atStart => exact ⟨0, l, by omega, rfl, by simp, But.refl _ _, Lib.hid Hn.out.symm, hO, Lib.hid (fun i hi => absurd hi (by omega))⟩
    case round =>
      obtain ⟨j, l', hj, rfl, rfl, hB, HL, hO', HJ⟩ := hrel
      by_cases hlt : j < n
      · go_wp2_with fail
        refine (markText_any _ (by omega) (by omega) _).mono ?_
        rintro e w1 ⟨rfl, b⟩
        have hO1 := ownsRow_below hO' b
        have hB1 := hB.trans (But.of_below b)
        have c1 := hO1.cellAt j (by omega)
        have c2 : w1.cell? ⟨g, j, none⟩ = some (Value.string (l'[j]?.getD ByteArray.empty)) := by
          rw [c1, List.getElem?_map, get_some ByteArray.empty (by rw [HL.out]; exact hlt)]; rfl
        have c3 := hO1.frozenAt j
        have HS := Lib.hid ((hO1.stored j (Value.string (mText (k0 + j)))).1)
        clear c1 hO' hO1 b hB
        generalize l'[j]?.getD ByteArray.empty = x0 at c2
        obtain ⟨tx, htx⟩ : ∃ t, t = mText (k0 + (j : Int)) := ⟨_, rfl⟩
        rw [← htx] at HS ⊢
        have HTX := Lib.hid htx; clear htx
        go_wp2
        go_roundw
        case rel =>
          refine ⟨j + 1, l'.set j tx, by omega, by go_num, by go_num, hB1.setCell (by simp) _, Lib.hid (by rw [List.length_set]; exact HL.out), by rw [List.map_set]; exact HS.out, Lib.hid (fun i hi => ?_)⟩
          by_cases e : i = j
          · subst e; rw [List.getElem?_set_self (by rw [HL.out]; exact hlt), ← HTX.out]; rfl
          · rw [List.getElem?_set_ne (fun e' => e e'.symm)]; exact HJ.out i (by omega)
        case measure => simp [intOf]; omega
      · obtain rfl : j = n := by omega
        go_wp2
        go_ret
        refine ⟨l', by rw [show strsM.cnt l = l.length from rfl, ← Hn.out]; rfl, ?_, fun i hi => HJ.out i (by rw [← HL.out]; exact hi), by show l'.length = l.length; rw [HL.out, Hn.out], hB⟩
        have hE' := HE.out
        refine ow_flat (Value.string) rfl (fun x hx => ?_) (by rw [HL.out]; exact hO')
        obtain ⟨i, hi, rfl⟩ := List.getElem_of_mem hx
        have hi' := HJ.out i (by rw [← HL.out]; exact hi)
        rw [List.getElem?_eq_getElem hi] at hi'
        simp only [Option.getD_some] at hi'
        rw [hi']
        exact ⟨⟨rfl, Nat.le_trans (mText_size _ (by omega) (by have := HL.out; omega)) (by simp [maxLen])⟩, rfl⟩

set_option maxHeartbeats 400000 in
theorem heldStringS_any (v : Value) (l : List ByteArray) (B : Nat) (k0 : Int) (w : World) (h : strsE.rd w B [v] l) (hm : strsM.held l k0) (h0 : 0 < k0) (h1 : k0 + l.length ≤ 4611686018427387904) :
    Calls Tryz.prog 85 #[v, .int .i64 k0] w (Gives (.int .i64 (k0 + strsM.cnt l)) w) := by
  obtain ⟨a, cap, rfl, a1, a2, -, a4⟩ := rd_strs h
  clear h
  have Hc := Lib.hid (show (strsM.cnt l : Int) = l.length from rfl)
  obtain ⟨n, hn⟩ : ∃ n, n = l.length := ⟨_, rfl⟩
  rw [← hn] at a1 a4 h1 Hc ⊢
  have Hn := Lib.hid hn; clear hn
  have H4 := Lib.hid a4; clear a4
  have Hm : Hid (∀ i, i < l.length → l[i]?.getD ByteArray.empty = mText (k0 + i)) := Lib.hid hm
  clear hm
  go_enter Tryz.func85, Tryz.ntmps85
  go_wp2
  go_loopw [1, 5] (fun k i wr => ∃ j : Nat, j ≤ n ∧ i = .int .i64 j ∧ k = .int .i64 (k0 + j) ∧ Below w.heap.size w wr) (fun _ i _ => n - (intOf i).toNat)
  case atStart => exact ⟨0, by omega, rfl, by simp, Below.refl _ _⟩
  case round =>
    obtain ⟨j, hj, rfl, rfl, hB⟩ := hrel
    by_cases hlt : j < n
    · obtain ⟨b, o, rfl, -, hc, -⟩ := H4.out j hlt
      have gb := World.block_lt_of_cell? w _ hc
      have c1 := (hB.cell gb).trans hc
      have g1 : b < wr.heap.size := Nat.lt_of_lt_of_le gb hB.size
      clear hc gb
      rw [Hm.out j (by rw [← Hn.out]; exact hlt)] at c1
      have hov := cell_over wr
      have hmt := fun w => markText_any (k0 + (j : Int)) (by omega) (by omega) w
      obtain ⟨tx, htx⟩ : ∃ t, t = mText (k0 + (j : Int)) := ⟨_, rfl⟩
      rw [← htx] at c1 hmt
      have HM := Lib.hid hmt; clear hmt htx
      have teq : (tx.toList == tx.toList) = true := by simp
      go_wp2
      refine wp_region_over (by kernel_rfl) (by kernel_rfl) ?_
      repeat (go_big_quiet_step ((go_at_call 59; exact calls_over (HM.out _))))
      refine wpQuiet_nil ?_
      intro w1 hw1
      go_wp2
      go_roundw
      case rel => exact ⟨j + 1, by omega, by go_num, by go_num, hB.trans (hw1.mono hB.size)⟩
      case measure => simp [intOf]; omega
    · obtain rfl : j = n := by omega
      go_wp2
      go_ret
      exact ⟨by rw [Hc.out]; rfl, hB⟩

end Go.Proofs.YtcifdkliiljmkaaGreatDoor
