/-
  The walk of RailBack.
-/
import Derived.Test.YtmeialegemhlhaaRail5F
namespace Go.Proofs.Ytmeialegemhlhaa
open Go.RowKit Go.PK

set_option maxHeartbeats 400000 in
theorem RailBack_walk (w : World) (v : Value) (l : List UInt8) (hv : Bytes w v l) (hl : l.length ≤ 140737488351232) :
    Calls Try.prog 4 #[v] w fun e w' => e = .returned (.bool true) ∧ Below w.heap.size w w' := by
  have hgot := Rail.put_got l
  cases hr : Rail.right l with
  | true =>
    have HG := Lib.hid (hgot hr)
    clear hgot
    go_enter Try.func4, Try.ntmps4
    go_wp2_with fail
    refine (rail_Put _ _ l hv hl).mono ?_
    rintro e w1 ⟨v1, rfl, ho1, B1⟩
    go_wp2_with fail
    refine (rail_Get _ _ (Rail.put l) (Bytes.of_owns ho1).2 (by rw [Rail.put_length]; omega)).mono ?_
    rintro e w2 ⟨v2, rfl, ho2, B2⟩
    rw [Rail.right_put, if_pos rfl]
    rw [Rail.got_put] at ho2
    have C2 := B1.trans (B2.mono B1.size)
    have hv2 := hv.below C2 (Nat.le_refl _)
    have s1 := str_of (Bytes.of_owns ho2).2
    have s2 := str_of hv2
    clear ho1 ho2 B1 B2
    go_wp2_with fail
    refine (rail_Get _ _ l hv2 (by omega)).mono ?_
    rintro e w3 ⟨v3, rfl, ho3, B3⟩
    rw [if_pos hr]
    have hv3 := hv2.below B3 (Nat.le_refl _)
    have C3 := C2.trans (B3.mono C2.size)
    have hu3 := (Bytes.of_owns ho3).2
    clear s1 s2 ho3 B3 C2 hv2
    go_wp2_with fail
    have hB : Below w3.heap.size w3 w3.drew := (Below.refl _ _).drew
    have hgl : (Rail.got l).length ≤ 140737488351232 := by
      have := congrArg List.length HG.out
      rw [Rail.put_length] at this
      omega
    have sd := str_of (hv3.below hB (Nat.le_refl _))
    have hl3 := hl
    go_region_with (first
      | (go_at_call 21; refine (rail_Right_b _ _ l (hv3.below hB (Nat.le_refl _))).mono ?_; rintro e w4 ⟨rfl, B4⟩; rw [hr]; replace hB := hB.trans (B4.mono hB.size); have s4 := str_of (hv3.below hB (Nat.le_refl _)))
      | (go_at_call 20; refine (rail_Put _ _ (Rail.got l) (hu3.below hB (Nat.le_refl _)) hgl).mono ?_; rintro e w5 ⟨v5, rfl, ho5, B5⟩; rw [HG.out] at ho5; replace hB := hB.trans (B5.mono hB.size); have s5 := str_of (hv3.below hB (Nat.le_refl _)); have t5 := str_of (Bytes.of_owns ho5).2)
      | (go_at_call 18; refine (law05_fixed _).mono ?_; rintro e w6 ⟨rfl, B6⟩; replace hB := hB.trans (B6.mono hB.size)))
    all_goals
      go_wp2_with fail
      go_ret
      exact ⟨rfl, C3.trans (hB.mono C3.size)⟩
  | false =>
    clear hgot
    go_enter Try.func4, Try.ntmps4
    go_wp2_with fail
    refine (rail_Put _ _ l hv hl).mono ?_
    rintro e w1 ⟨v1, rfl, ho1, B1⟩
    go_wp2_with fail
    refine (rail_Get _ _ (Rail.put l) (Bytes.of_owns ho1).2 (by rw [Rail.put_length]; omega)).mono ?_
    rintro e w2 ⟨v2, rfl, ho2, B2⟩
    rw [Rail.right_put, if_pos rfl]
    rw [Rail.got_put] at ho2
    have C2 := B1.trans (B2.mono B1.size)
    have hv2 := hv.below C2 (Nat.le_refl _)
    have s1 := str_of (Bytes.of_owns ho2).2
    have s2 := str_of hv2
    clear ho1 ho2 B1 B2
    go_wp2_with fail
    refine (rail_Get _ _ l hv2 (by omega)).mono ?_
    rintro e w3 ⟨v3, rfl, ho3, B3⟩
    rw [if_neg (by rw [hr]; decide)]
    have hv3 := hv2.below B3 (Nat.le_refl _)
    have C3 := C2.trans (B3.mono C2.size)
    have hu3 := (Bytes.of_owns ho3).2
    have hg0 : Rail.got l = [] := by unfold Rail.got; rw [if_neg (by rw [hr]; decide)]
    rw [hg0] at hu3
    obtain ⟨bo, cap, rfl, -, -, -⟩ := hu3
    clear s1 s2 ho3 B3 C2 hv2 hg0
    go_wp2_with fail
    refine (rail_Right_b _ _ l hv3).mono ?_
    rintro e w4 ⟨rfl, B4⟩
    rw [hr]
    have C4 := C3.trans (B4.mono C3.size)
    go_wp2_with fail
    refine (law05_fixed _).mono ?_
    rintro e w6 ⟨rfl, B6⟩
    have C6 := C4.trans (B6.mono C4.size)
    go_wp2_with fail
    go_ret
    exact ⟨rfl, C6⟩
end Go.Proofs.Ytmeialegemhlhaa
