/-
  The walk of RailNames.
-/
import Derived.Test.YtmeialegemhlhaaRail5F
namespace Go.Proofs.Ytmeialegemhlhaa
open Go.RowKit Go.PK

theorem RailNames_walk (w : World) : Calls Try.prog 3 #[] w fun e w' => e = .returned (.bool true) ∧ Below w.heap.size w w' := by
  go_enter Try.func3, Try.ntmps3
  go_wp2_with fail
  refine (law05_fixed _).mono ?_
  rintro e w1 ⟨rfl, hb⟩
  go_wp2_with fail
  go_ret
  exact ⟨rfl, hb⟩
end Go.Proofs.Ytmeialegemhlhaa
