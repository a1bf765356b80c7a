/-
  The library's NewReplacer at six strings.
-/
import Derived.Test.YtcifdkliiljmkaaGreatDoorRepOK
import Derived.Test.YtcifdkliiljmkaaGreatDoorOwnTextsK
import Derived.Lib.Hide
namespace Go.Proofs.YtcifdkliiljmkaaGreatDoor
open Go.RowKit

set_option maxHeartbeats 4000000 in
theorem newReplacer_any (v : Value) (a b c : ByteArray) (ps : List Ob) (B : Nat) (w0 w : World) (hB : B ≤ w.heap.size) (S : Star w0 w ps) (h : strsE.rd w B [v] (repL a b c)) :
    Calls Tryz.prog 55 #[v] w (fun e w' => ∃ r, e = .returned (.pointer (some ⟨r, 0, none⟩)) ∧ Star w0 w' (oRep r a b c :: ps)) := by
  obtain ⟨ga, gc, rfl, -, -, -, -⟩ := rd_strs h
  rw [show (repL a b c).length = 6 from rfl] at *
  have R := Lib.hid h
  clear h
  have SA := S.nils strE 9
  have hll : ([] : List ByteArray).length + (repL a b c).length ≤ 1000000000000 := by simp [repL]
  go_enter Tryz.func55, Tryz.ntmps55
  obtain ⟨css, fys, e1, e2, e3⟩ := src_strs R.out
  go_wp2_with (at_builtin; refine stS_StringS (ys := repL a b c) SA rfl rfl rfl e1 e2 e3 hll ?_; intro ja jn jc w3 S3)
  go_ret
  refine ⟨_, rfl, ?_⟩
  exact (S3.alloc (cs := #[.int .u32 0, .int .i32 0, .int .u32 0, .nilIface, .slice ja jn jc]) (ty := tRep)).toFr

end Go.Proofs.YtcifdkliiljmkaaGreatDoor
