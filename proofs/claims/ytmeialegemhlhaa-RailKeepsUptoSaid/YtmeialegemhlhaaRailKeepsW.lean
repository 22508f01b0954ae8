/-
  The walk of RailKeeps.
-/
import Derived.Test.YtmeialegemhlhaaKeepsW
import Derived.Test.YtmeialegemhlhaaBulk
namespace Go.Proofs.Ytmeialegemhlhaa
open Go.RowKit Go.PK

theorem enter_put (args : Array Value) (w : World) : (callFunc 20 args).run Try.prog w = .ok (.enter 20 args) w := by
  go_simp
theorem enter_got (args : Array Value) (w : World) : (callFunc 22 args).run Try.prog w = .ok (.enter 22 args) w := by
  go_simp

theorem maker_put : Maker 20 Rail.put := fun w v l hv hl => rail_Put w v l hv (by omega)
theorem maker_got : Maker 22 Rail.got := by
  intro w v l hv hl
  go_enter Try.func22, Try.ntmps22
  go_wp2_with fail
  refine (rail_Get _ _ l hv (by omega)).mono ?_
  rintro e w1 ⟨v1, rfl, ho1, B1⟩
  generalize (if Rail.right l = true then (0 : Int) else 5) = q
  go_wp2_with fail
  go_ret
  exact ⟨_, rfl, ho1, B1⟩

theorem RailKeeps_walk (w : World) (v : Value) (l : List UInt8) (hv : Bytes w v l) (hl : l.length ≤ 1048576) :
    Calls Try.prog 5 #[v] w fun e w' => e = .returned (.bool true) ∧ Below w.heap.size w w' := by
  go_enter Try.func5, Try.ntmps5
  go_wp2_with fail
  refine (law05_keeps _ Rail.put maker_put enter_put _ _ l hv (by omega) (by rw [Rail.put_length]; omega)).mono ?_
  rintro e w1 ⟨rfl, B1⟩
  go_wp2_with fail
  refine (law05_keeps _ Rail.got maker_got enter_got _ _ l (hv.adds B1) (by omega) (by have := Rail.got_le l; omega)).mono ?_
  rintro e w2 ⟨rfl, B2⟩
  have C2 := Adds.trans B1 B2
  go_wp2_with fail
  refine (ref05_Put _ _ l (hv.adds C2) (by omega)).mono ?_
  rintro e w3 ⟨u, rfl, ho3, B3⟩
  have C3 := Adds.trans C2 B3
  have hl3 : (Rail.put l).length ≤ 2097152 := by rw [Rail.put_length]; omega
  go_wp2_with fail
  refine (law05_keeps _ Rail.got maker_got enter_got _ _ (Rail.put l) (Bytes.of_owns ho3).2 hl3 (by have := Rail.got_le (Rail.put l); omega)).mono ?_
  rintro e w4 ⟨rfl, B4⟩
  have C4 := Adds.trans C3 B4
  go_wp2_with fail
  refine (law05_fixed _).mono ?_
  rintro e w5 ⟨rfl, B5⟩
  go_wp2_with fail
  go_ret
  exact ⟨rfl, Adds.trans C4 B5⟩
end Go.Proofs.Ytmeialegemhlhaa
