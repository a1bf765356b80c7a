/-
  sync.Once's slow road and Do, whatever the function handed on makes (after the kit's worked proof Lazy).
-/
import Derived.Test.YtcifdkliiljmkaaGreatDoorOncePK
import Derived.Laws.NewBlocks
import Derived.Lib.Hide
namespace Go.Proofs.YtcifdkliiljmkaaGreatDoor
open Go.RowKit

/-- The Once's word and lock are as they stood when the function was called. -/
def OnceMid (b : Nat) (w : World) : Prop := w.cell? ⟨b, 0, none⟩ = some (.int .u32 0) ∧ w.cell? ⟨b, 1, none⟩ = some (.int .i32 1) ∧ w.frozen? ⟨b, 0, none⟩ = false ∧ w.frozen? ⟨b, 1, none⟩ = false
/-- What is stored behind the function. -/
def onceEnd (b : Nat) (w : World) : World := (w.drew.setCell ⟨b, 0, none⟩ (.int .u32 1)).setCell ⟨b, 1, none⟩ (.int .i32 0)

set_option maxRecDepth 100000 in
set_option maxHeartbeats 1600000 in
theorem doSlow_any (b : Nat) (rp : Value) (P : World → Prop) (w : World)
    (h0 : w.cell? ⟨b, 0, none⟩ = some (.int .u32 0)) (h1 : w.cell? ⟨b, 1, none⟩ = some (.int .i32 0)) (f0 : w.frozen? ⟨b, 0, none⟩ = false) (f1 : w.frozen? ⟨b, 1, none⟩ = false)
    (hcall : Calls Tryz.prog 84 #[rp] (w.setCell ⟨b, 1, none⟩ (.int .i32 1)) (fun e w' => e = .returned (.tuple #[]) ∧ P w')) (hP : ∀ w', P w' → OnceMid b w') :
    Calls Tryz.prog 109 #[.pointer (some ⟨b, 0, none⟩), .func (.func 84) #[rp] #[]] w (fun e w' => e = .returned (.tuple #[]) ∧ ∃ w2, P w2 ∧ w' = onceEnd b w2) := by
  have hl := run_call_load (P := Tryz.prog) Tryz.func121 (by kernel_rfl) (by kernel_rfl) (by kernel_rfl) .u32 (by kernel_rfl) (w := w.setCell ⟨b, 1, none⟩ (.int .i32 1)) (a := ⟨b, 0, none⟩) (x := 0) ((World.cell?_setCell_other _ ⟨b, 1, none⟩ ⟨b, 0, none⟩ _ (by simp)).trans h0)
  have hnot : ∀ (x : Bool) (w : World), (Op.unary .not (.bool x)).run Tryz.prog w = .ok (.bool (!x)) w := fun _ _ => rfl
  have HC := Lib.hid hcall; have HP := Lib.hid hP
  clear hcall hP
  go_enter_defers Tryz.func109, Tryz.ntmps109
  go_wp2_with (first
    | (go_at_call 122; refine (lockFree ⟨b, 1, none⟩ _ (by go_simp) (by go_simp)).mono ?_; rintro e w' ⟨rfl, rfl⟩)
    | (go_at_call 84; refine HC.out.mono ?_; rintro e w2 ⟨rfl, hp⟩)
    | (go_at_call 108; go_in))
  have hm := HP.out _ hp
  simp only [bodyPostD]
  refine leaves_cons (f := 124) (args := #[.pointer (some ⟨b, 0, none⟩), .bool true]) (by simp) (by simp [go_sem]) ?_
  refine (storeD ⟨b, 0, none⟩ (.int .u32 0) .returning _ hm.1 hm.2.2.1).mono ?_
  rintro e u' w'' ⟨rfl, rfl, rfl⟩
  refine leaves_cons (f := 123) (args := #[.pointer (some ⟨b, 1, none⟩)]) (by simp [settle]) (by simp [go_sem]) ?_
  refine (unlockD ⟨b, 1, none⟩ _ _ ?_ ?_).mono ?_
  · refine (World.cell?_setCell_other _ ⟨b, 0, none⟩ ⟨b, 1, none⟩ _ (by simp)).trans ?_
    rw [World.cell?_drew]
    exact hm.2.1
  · have := hm.2.2.2
    simpa using this
  rintro e u' w'' ⟨rfl, rfl, rfl⟩
  simp [Leaves, settle, results, Tryz.results109]
  exact ⟨w2, hp, rfl⟩

set_option maxRecDepth 100000 in
set_option maxHeartbeats 1600000 in
/-- Do, not yet done, the lock free. -/
theorem onceFirst (b : Nat) (rp : Value) (P : World → Prop) (w : World)
    (h0 : w.cell? ⟨b, 0, none⟩ = some (.int .u32 0)) (h1 : w.cell? ⟨b, 1, none⟩ = some (.int .i32 0)) (f0 : w.frozen? ⟨b, 0, none⟩ = false) (f1 : w.frozen? ⟨b, 1, none⟩ = false)
    (hcall : Calls Tryz.prog 84 #[rp] (w.setCell ⟨b, 1, none⟩ (.int .i32 1)) (fun e w' => e = .returned (.tuple #[]) ∧ P w')) (hP : ∀ w', P w' → OnceMid b w') :
    Calls Tryz.prog 83 #[.pointer (some ⟨b, 0, none⟩), .func (.func 84) #[rp] #[]] w (fun e w' => e = .returned (.tuple #[]) ∧ ∃ w2, P w2 ∧ w' = onceEnd b w2) := by
  have hl := run_call_load (P := Tryz.prog) Tryz.func121 (by kernel_rfl) (by kernel_rfl) (by kernel_rfl) .u32 (by kernel_rfl) h0
  have hnot : ∀ (x : Bool) (w : World), (Op.unary .not (.bool x)).run Tryz.prog w = .ok (.bool (!x)) w := fun _ _ => rfl
  have HS := Lib.hid (doSlow_any b rp P w h0 h1 f0 f1 hcall hP)
  clear hcall hP
  go_enter Tryz.func83, Tryz.ntmps83
  go_wp2_with (first
    | (go_at_call 109; refine HS.out.mono ?_; rintro e w' ⟨rfl, hp⟩)
    | (go_at_call 108; go_in))
  go_end0
  exact ⟨rfl, hp⟩

/-- Do, done already: the function is not called. -/
theorem onceDone (b : Nat) (fv : Value) (w : World) (h0 : w.cell? ⟨b, 0, none⟩ = some (.int .u32 1)) :
    Calls Tryz.prog 83 #[.pointer (some ⟨b, 0, none⟩), fv] w (fun e w' => e = .returned (.tuple #[]) ∧ w' = w) := by
  have hl := run_call_load (P := Tryz.prog) Tryz.func121 (by kernel_rfl) (by kernel_rfl) (by kernel_rfl) .u32 (by kernel_rfl) h0
  have hnot : ∀ (x : Bool) (w : World), (Op.unary .not (.bool x)).run Tryz.prog w = .ok (.bool (!x)) w := fun _ _ => rfl
  go_enter Tryz.func83, Tryz.ntmps83
  go_wp2_with (go_at_call 108; go_in)
  go_end0
  exact ⟨rfl, rfl⟩

end Go.Proofs.YtcifdkliiljmkaaGreatDoor
