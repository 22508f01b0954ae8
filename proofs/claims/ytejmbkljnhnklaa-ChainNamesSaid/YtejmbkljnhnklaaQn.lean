/-
  The walk of ChainNames.
-/
import Derived.Test.YtejmbkljnhnklaaQi
namespace Go.Proofs.Ytejmbkljnhnklaa
open Go.RowKit Go.PK

set_option maxRecDepth 100000 in
set_option maxHeartbeats 4000000 in
theorem ChainNames_walk (w0 : World) : Calls Try.prog 9 #[] w0 fun e w' => e = .returned (.bool true) ∧ Below w0.heap.size w0 w' := by
  have hM := Mem.start w0
  go_enter Try.func9, Try.ntmps9
  go_wp2_with ((go_at_call 34; (with_reducible refine (law16_fixed _).mono ?_); rintro _ _ ⟨rfl, B1⟩; replace hM := hM.adds B1; clear B1))
  go_ret
  exact ⟨rfl, hM.done⟩
end Go.Proofs.Ytejmbkljnhnklaa
