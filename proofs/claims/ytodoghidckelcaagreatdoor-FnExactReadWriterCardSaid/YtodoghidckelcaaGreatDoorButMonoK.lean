/-
  Two small laws for the marks of structs.
-/
import Derived.Test.YtodoghidckelcaaGreatDoorMarksK
namespace Go.Proofs.YtodoghidckelcaaGreatDoor
open Go.RowKit

theorem But.mono {fp fq : List Nat} {w w' : World} (h : But fp w w') (hs : ∀ b, b ∈ fp → b ∈ fq) : But fq w w' :=
  ⟨h.os, h.tape, h.output, h.size, fun k hk hn => h.block k hk (fun hp => hn (hs k hp))⟩

theorem ret_k_ret {a b : Int} (h : a = b) : Ending.returned (Value.int .i64 a) = Ending.returned (Value.int .i64 b) := by rw [h]

end Go.Proofs.YtodoghidckelcaaGreatDoor
