/-
  'fixed' of the statements of layer 5.
-/
import Derived.Test.YtmeialegemhlhaaRail5W
namespace Go.Proofs.Ytmeialegemhlhaa
open Go.RowKit Go.PK

theorem str_of {w : World} {v : Value} {l : List UInt8} (h : Bytes w v l) : (convert 23 9 v).run Try.prog w = .ok (.string ⟨l.toArray⟩) w :=
  run_str 23 9 5 Try.underlying23 Try.underlying5 Try.underlying9 h

theorem law05_fixed (w : World) : Calls Try.prog 18 #[] w fun e w' => e = .returned (.bool true) ∧ Below w.heap.size w w' := by
  go_enter Try.func18, Try.ntmps18
  go_wp2_with fail
  refine (rail_Get _ _ [0x12, 0xFF, 0xED, 0] (Bytes.new _ _ _ _ rfl (by decide)) (by decide)).mono ?_
  rintro e w1 ⟨v1, rfl, ho1, hb1⟩
  rw [show Rail.got [0x12, 0xFF, 0xED, 0] = [0x12, 0xFF] from by decide] at ho1
  rw [show Rail.right [0x12, 0xFF, 0xED, 0] = true from by decide, if_pos rfl]
  have B1 : Below w.heap.size w w1 := ((Below.refl _ _).alloc (Nat.le_refl _) _).trans (hb1.mono (by simp))
  have hv1 := (Bytes.of_owns ho1).2
  clear ho1 hb1
  go_wp2_with fail
  refine (rail_Get _ _ [1, 2] (Bytes.new _ _ _ _ rfl (by decide)) (by decide)).mono ?_
  rintro e w2 ⟨v2, rfl, ho2, hb2⟩
  rw [show Rail.right [1, 2] = false from by decide, if_neg (by decide)]
  have B2 : Below w1.heap.size w1 w2 := ((Below.refl _ _).alloc (Nat.le_refl _) _).trans (hb2.mono (by simp))
  have hv2 := hv1.below B2 (Nat.le_refl _)
  have C2 : Below w.heap.size w w2 := B1.trans (B2.mono B1.size)
  clear ho2 hb2 hv1 B1 B2
  go_wp2_with fail
  refine (rail_Put _ _ [0x12, 0xFF] (Bytes.new _ _ _ _ rfl (by decide)) (by decide)).mono ?_
  rintro e w3 ⟨v3, rfl, ho3, hb3⟩
  rw [show Rail.put [0x12, 0xFF] = [0x12, 0xFF, 0xED, 0] from by decide] at ho3
  have B3 : Below w2.heap.size w2 w3 := ((Below.refl _ _).alloc (Nat.le_refl _) _).trans (hb3.mono (by simp))
  have hv3 := hv2.below B3 (Nat.le_refl _)
  have C3 : Below w.heap.size w w3 := C2.trans (B3.mono C2.size)
  have s1 := str_of (Bytes.of_owns ho3).2
  have s2 := str_of hv3
  clear ho3 hb3 hv2 B3 C2 hv3
  go_wp2_with fail
  refine (rail_Right _ _ [] (Bytes.nil _)).mono ?_
  rintro e w4 ⟨rfl, m, rfl⟩
  rw [show Rail.right [] = true from by decide]
  go_wp2_with fail
  refine (rail_Right _ _ [0xFF, 0xFF] (Bytes.new _ _ _ _ rfl (by decide))).mono ?_
  rintro e w5 ⟨rfl, m', rfl⟩
  rw [show Rail.right [0xFF, 0xFF] = false from by decide]
  go_wp2_with fail
  go_ret
  exact ⟨rfl, drewN_below _ _ ((drewN_below _ _ C3).alloc C3.size _)⟩
end Go.Proofs.Ytmeialegemhlhaa
