/-
  The walk of MacEquals.
-/
import Derived.Test.YtejmbkljnhnklaaMacF
namespace Go.Proofs.Ytejmbkljnhnklaa
open Go.RowKit Go.PK

abbrev rTwo : Rd (List UInt8 × List UInt8 × Int × UInt8) := rPair (rSlice rByte) (rPair (rSlice rByte) (rPair rInt rByte))
theorem two_cells {w : World} {cs : List Value} {x : List UInt8 × List UInt8 × Int × UInt8} (h : rTwo.K w cs x) : ∃ vA vB, cs = [vA, vB, .int .i64 x.2.2.1, B8 x.2.2.2] ∧ Bytes w vA x.1 ∧ Bytes w vB x.2.1 := by
  obtain ⟨c1, c2, rfl, e1, c3, c4, rfl, e2, c5, c6, rfl, e3, e4⟩ := h
  obtain ⟨ao1, cap1, f1, -⟩ := id e1
  obtain ⟨ao2, cap2, f2, -⟩ := id e2
  subst f1
  subst f2
  obtain rfl : c5 = [.int .i64 x.2.2.1] := e3
  obtain rfl : c6 = [B8 x.2.2.2] := e4
  exact ⟨_, _, rfl, Bytes.of_K e1, Bytes.of_K e2⟩
set_option maxRecDepth 100000 in
set_option maxHeartbeats 4000000 in
theorem MacEquals_walk (w0 : World) (cs : List Value) (x : List UInt8 × List UInt8 × Int × UInt8) (hK : rTwo.K w0 cs x) (ho : rTwo.ok x) :
    Calls Try.prog 5 #[.agg cs.toArray] w0 fun e w' => e = .returned (.bool true) ∧ Below w0.heap.size w0 w' := by
  obtain ⟨a, b, at', by'⟩ := x
  obtain ⟨vA, vB, rfl, hva, hvb⟩ := two_cells hK
  have ho1 : a.length ≤ 140737488351232 := ho.1.1
  have ho3 : -9223372036854775808 ≤ at' ∧ at' ≤ 9223372036854775807 := ho.2.2.1
  clear hK ho
  obtain ⟨xab, hxab⟩ : ∃ x, (a == b) = x := ⟨_, rfl⟩
  have hxba : (b == a) = xab := by rw [← hxab, Bool.eq_iff_iff, beq_iff_eq, beq_iff_eq]; exact eq_comm
  have hM : Mem [] w0 w0 [⟨none, 5, ([] : List UInt8).map B8, 0⟩] := (Mem.start w0).addNil 5
  have hl0 : Len ([] : List UInt8) 0 := rfl
  obtain ⟨ao1, cap1, rfl, e1, e2, -⟩ := id hva
  obtain ⟨ao2, cap2, rfl, f1, f2, -⟩ := id hvb
  obtain ⟨na, hna⟩ : ∃ n, n = a.length := ⟨_, rfl⟩
  obtain ⟨nb, hnb⟩ : ∃ n, n = b.length := ⟨_, rfl⟩
  rw [← hna] at hva e1 ho1 ⊢
  rw [← hnb] at hvb f1 ⊢
  have hll : Len a na := hna.symm
  have hlb : Len b nb := hnb.symm
  clear hna hnb
  have HE : ∀ _ : Unit, (a == b) = xab := fun _ => hxab
  have HF : ∀ _ : Unit, (b == a) = xab := fun _ => hxba
  clear hxab hxba
  go_enter Try.func5, Try.ntmps5
  go_wp2_with (first | ((with_reducible refine gL_box (dst := some 1) hM ?_); refine ⟨_, [.slice ao1 na cap1, .slice ao2 nb cap2, .int .i64 at', B8 by'], 4, rfl, rfl, rfl, ?_⟩; intro g1 _ hM2; clear hM; have hM := hM2; clear hM2))
  try simp only [Act.put, List.setIfInBounds_toArray, List.set_cons_succ, List.set_cons_zero]
  refine wp_region_tail 12 (by decide) (fun c vals => ⟨#[c 0, (Value.pointer (some ⟨g1, 0, none⟩) : Value), c 2, vals 8, vals 9, vals 10, vals 11, c 7, c 8, vals 0, vals 1, vals 2, vals 3, vals 4, vals 5, vals 6, vals 7, c 17, c 18, c 19, c 20, c 21, c 22, c 23, c 24, c 25, c 26, c 27, c 28, c 29, c 30, c 31, c 32, c 33, c 34, c 35, c 36, c 37, c 38, c 39, c 40, c 41, c 42, c 43, c 44, c 45, c 46, c 47, c 48, c 49, c 50, c 51, c 52, c 53, c 54, c 55, c 56, c 57, c 58, c 59, c 60, c 61, c 62, c 63, c 64, c 65, c 66, c 67, c 68, c 69, c 70, c 71, c 72, c 73, c 74, c 75, c 76, c 77, c 78, c 79], []⟩) (fun t => [_, undef, _, undef, undef, undef, undef, _, _, undef, undef, undef, undef, undef, undef, undef, undef, _, _, _, _, _, _, _, _, _, _, _, _, _, _, _, _, _, _, _, _, _, _, _, _, _, _, _, _, _, _, _, _, _, _, _, _, _, _, _, _, _, _, _, _, _, _, _, _, _, _, _, _, _, _, _, _, _, _, _, _, _, _, _].getD t undef) (fun i => [_, _, _, _, _, _, _, _, _, _, _, _].getD i undef) (by kernel_rfl)
    [[], [0], [], [2], [], [4], [], [6], [0, 1], [0, 1, 2, 3, 8], [0, 1, 2, 3, 4, 5, 8, 9], [0, 1, 2, 3, 4, 5, 6, 7, 8, 9, 10]] (by kernel_rfl) (by kernel_rfl) (fun _ => True) trivial
    [fun x _ => x = (Value.pointer (some ⟨g1, 0, none⟩) : Value),
     fun x _ => x = (Value.slice ao1 na cap1 : Value),
     fun x _ => x = (Value.pointer (some ⟨g1, 1, none⟩) : Value),
     fun x _ => x = (Value.slice ao2 nb cap2 : Value),
     fun x _ => x = (Value.pointer (some ⟨g1, 2, none⟩) : Value),
     fun x _ => x = (Value.int .i64 at' : Value),
     fun x _ => x = (Value.pointer (some ⟨g1, 3, none⟩) : Value),
     fun x _ => x = (B8 by' : Value),
     fun x _ => x = (Value.slice ao1 na cap1 : Value),
     fun x _ => x = (Value.slice ao2 nb cap2 : Value),
     fun x _ => x = (Value.int .i64 at' : Value),
     fun x _ => x = (B8 by' : Value)]
    ⟨fun _ _ _ h _ => h, fun _ _ _ h _ => h, fun _ _ _ h _ => h, fun _ _ _ h _ => h, fun _ _ _ h _ => h, fun _ _ _ h _ => h, fun _ _ _ h _ => h, fun _ _ _ h _ => h, fun _ _ _ h _ => h, fun _ _ _ h _ => h, fun _ _ _ h _ => h, fun _ _ _ h _ => h, trivial⟩ []
    ⟨?_, ?_, ?_, ?_, ?_, ?_, ?_, ?_, ?_, ?_, ?_, ?_, trivial⟩ ?_
  · refine showA_op 0 (by intro _ _ _; kernel_rfl) rfl rfl (fun c vals w hC hD => ?_)
    clear hD
    refine makes1 (x := .tmp 1) (X := Value.pointer (some ⟨g1, 0, none⟩)) (by kernel_rfl : _ = (Value.pointer (some ⟨g1, 0, none⟩) : Value)) (fun ρ rc rf q1 => ?_)
    refine makes_value (v := Value.pointer (some ⟨g1, 0, none⟩)) ?_ ⟨Adds.refl _, rfl⟩
    go_simp
    all_goals first | done | rfl | (rw [if_pos (by omega)]; refine congrArg (fun x => Result.ok (Next.value (Value.pointer (some ⟨_, x, none⟩))) _) ?_; omega) | (rw [wrapP_i64]; omega) | go_num | (simp; done) | (simp; omega) | (congr 1; first | rfl | (rw [wrapP_i64]; omega) | (congr 1; first | rfl | (simp; done) | (simp; omega) | (congr 2; omega) | go_num))
  · refine showA_op 1 (by intro _ _ _; kernel_rfl) rfl rfl (fun c vals w hC hD => ?_)
    have h0 : vals 0 = .pointer (some ⟨g1, 0, none⟩) := hD 0 rfl
    clear hD
    refine makes1 (x := .tmp 9) (X := Value.pointer (some ⟨g1, 0, none⟩)) ((by kernel_rfl : _ = vals 0).trans h0) (fun ρ rc rf q9 => ?_)
    clear h0
    exact makes_load ((hM.adds hC).loads_one (.head _) (on_of rfl) rfl) rfl q9 ⟨Adds.refl _, rfl⟩
  · refine showA_op 2 (by intro _ _ _; kernel_rfl) rfl rfl (fun c vals w hC hD => ?_)
    clear hD
    refine makes1 (x := .tmp 1) (X := Value.pointer (some ⟨g1, 0, none⟩)) (by kernel_rfl : _ = (Value.pointer (some ⟨g1, 0, none⟩) : Value)) (fun ρ rc rf q1 => ?_)
    refine makes_value (v := Value.pointer (some ⟨g1, 1, none⟩)) ?_ ⟨Adds.refl _, rfl⟩
    go_simp
    all_goals first | done | rfl | (rw [if_pos (by omega)]; refine congrArg (fun x => Result.ok (Next.value (Value.pointer (some ⟨_, x, none⟩))) _) ?_; omega) | (rw [wrapP_i64]; omega) | go_num | (simp; done) | (simp; omega) | (congr 1; first | rfl | (rw [wrapP_i64]; omega) | (congr 1; first | rfl | (simp; done) | (simp; omega) | (congr 2; omega) | go_num))
  · refine showA_op 3 (by intro _ _ _; kernel_rfl) rfl rfl (fun c vals w hC hD => ?_)
    have h2 : vals 2 = .pointer (some ⟨g1, 1, none⟩) := hD 2 rfl
    clear hD
    refine makes1 (x := .tmp 11) (X := Value.pointer (some ⟨g1, 1, none⟩)) ((by kernel_rfl : _ = vals 2).trans h2) (fun ρ rc rf q11 => ?_)
    clear h2
    exact makes_load ((hM.adds hC).loads_one (.head _) (on_of rfl) rfl) rfl q11 ⟨Adds.refl _, rfl⟩
  · refine showA_op 4 (by intro _ _ _; kernel_rfl) rfl rfl (fun c vals w hC hD => ?_)
    clear hD
    refine makes1 (x := .tmp 1) (X := Value.pointer (some ⟨g1, 0, none⟩)) (by kernel_rfl : _ = (Value.pointer (some ⟨g1, 0, none⟩) : Value)) (fun ρ rc rf q1 => ?_)
    refine makes_value (v := Value.pointer (some ⟨g1, 2, none⟩)) ?_ ⟨Adds.refl _, rfl⟩
    go_simp
    all_goals first | done | rfl | (rw [if_pos (by omega)]; refine congrArg (fun x => Result.ok (Next.value (Value.pointer (some ⟨_, x, none⟩))) _) ?_; omega) | (rw [wrapP_i64]; omega) | go_num | (simp; done) | (simp; omega) | (congr 1; first | rfl | (rw [wrapP_i64]; omega) | (congr 1; first | rfl | (simp; done) | (simp; omega) | (congr 2; omega) | go_num))
  · refine showA_op 5 (by intro _ _ _; kernel_rfl) rfl rfl (fun c vals w hC hD => ?_)
    have h4 : vals 4 = .pointer (some ⟨g1, 2, none⟩) := hD 4 rfl
    clear hD
    refine makes1 (x := .tmp 13) (X := Value.pointer (some ⟨g1, 2, none⟩)) ((by kernel_rfl : _ = vals 4).trans h4) (fun ρ rc rf q13 => ?_)
    clear h4
    exact makes_load ((hM.adds hC).loads_one (.head _) (on_of rfl) rfl) rfl q13 ⟨Adds.refl _, rfl⟩
  · refine showA_op 6 (by intro _ _ _; kernel_rfl) rfl rfl (fun c vals w hC hD => ?_)
    clear hD
    refine makes1 (x := .tmp 1) (X := Value.pointer (some ⟨g1, 0, none⟩)) (by kernel_rfl : _ = (Value.pointer (some ⟨g1, 0, none⟩) : Value)) (fun ρ rc rf q1 => ?_)
    refine makes_value (v := Value.pointer (some ⟨g1, 3, none⟩)) ?_ ⟨Adds.refl _, rfl⟩
    go_simp
    all_goals first | done | rfl | (rw [if_pos (by omega)]; refine congrArg (fun x => Result.ok (Next.value (Value.pointer (some ⟨_, x, none⟩))) _) ?_; omega) | (rw [wrapP_i64]; omega) | go_num | (simp; done) | (simp; omega) | (congr 1; first | rfl | (rw [wrapP_i64]; omega) | (congr 1; first | rfl | (simp; done) | (simp; omega) | (congr 2; omega) | go_num))
  · refine showA_op 7 (by intro _ _ _; kernel_rfl) rfl rfl (fun c vals w hC hD => ?_)
    have h6 : vals 6 = .pointer (some ⟨g1, 3, none⟩) := hD 6 rfl
    clear hD
    refine makes1 (x := .tmp 15) (X := Value.pointer (some ⟨g1, 3, none⟩)) ((by kernel_rfl : _ = vals 6).trans h6) (fun ρ rc rf q15 => ?_)
    clear h6
    exact makes_load ((hM.adds hC).loads_one (.head _) (on_of rfl) rfl) rfl q15 ⟨Adds.refl _, rfl⟩
  · refine showA_op 8 (by intro _ _ _; kernel_rfl) rfl rfl (fun c vals w hC hD => ?_)
    have h1 : vals 1 = .slice ao1 na cap1 := hD 1 rfl
    clear hD
    refine makes1 (x := .tmp 10) (X := Value.slice ao1 na cap1) ((by kernel_rfl : _ = vals 1).trans h1) (fun ρ rc rf q10 => ?_)
    clear h1
    exact makes_move (.inr rfl) q10 ⟨Adds.refl _, rfl⟩
  · refine showA_op 9 (by intro _ _ _; kernel_rfl) rfl rfl (fun c vals w hC hD => ?_)
    have h3 : vals 3 = .slice ao2 nb cap2 := hD 3 rfl
    clear hD
    refine makes1 (x := .tmp 12) (X := Value.slice ao2 nb cap2) ((by kernel_rfl : _ = vals 3).trans h3) (fun ρ rc rf q12 => ?_)
    clear h3
    exact makes_move (.inr rfl) q12 ⟨Adds.refl _, rfl⟩
  · refine showA_op 10 (by intro _ _ _; kernel_rfl) rfl rfl (fun c vals w hC hD => ?_)
    have h5 : vals 5 = .int .i64 at' := hD 5 rfl
    clear hD
    refine makes1 (x := .tmp 14) (X := Value.int .i64 at') ((by kernel_rfl : _ = vals 5).trans h5) (fun ρ rc rf q14 => ?_)
    clear h5
    exact makes_move (.inr rfl) q14 ⟨Adds.refl _, rfl⟩
  · refine showA_op 11 (by intro _ _ _; kernel_rfl) rfl rfl (fun c vals w hC hD => ?_)
    have h7 : vals 7 = B8 by' := hD 7 rfl
    clear hD
    refine makes1 (x := .tmp 16) (X := B8 by') ((by kernel_rfl : _ = vals 7).trans h7) (fun ρ rc rf q16 => ?_)
    clear h7
    exact makes_move (.inr rfl) q16 ⟨Adds.refl _, rfl⟩
  intro vals w' hC hΦ hne
  have h8 : vals 8 = .slice ao1 na cap1 := hΦ 8 (by decide)
  have h9 : vals 9 = .slice ao2 nb cap2 := hΦ 9 (by decide)
  have h10 : vals 10 = .int .i64 at' := hΦ 10 (by decide)
  have h11 : vals 11 = B8 by' := hΦ 11 (by decide)
  clear hΦ hne
  simp only [List.getD_eq_getElem?_getD, List.getElem?_cons_zero, List.getElem?_cons_succ, Option.getD_some, List.drop_succ_cons, List.drop_zero]
  simp only [h8, h9, h10, h11]
  clear h8 h9 h10 h11
  try simp only [tuple_undef]
  replace hM := hM.adds hC
  clear hC
  have hways : na = 0 ∨ (0 < na ∧ ∃ (r : Int) (t : Nat), at'.tmod (na : Int) = r ∧ t < na ∧ ((r < 0 ∧ r + (na : Int) = t) ∨ (0 ≤ r ∧ r = t))) := by
    by_cases h0 : na = 0
    · exact .inl h0
    · refine .inr ⟨by omega, at'.tmod (na : Int), ?_⟩
      have h1 : 0 < (na : Int) := by omega
      have h2 := Int.tmod_lt_of_pos at' h1
      have h3 := Int.lt_tmod_of_pos at' h1
      by_cases h : at'.tmod (na : Int) < 0
      · exact ⟨(at'.tmod (na : Int) + (na : Int)).toNat, rfl, by omega, .inl ⟨h, by omega⟩⟩
      · exact ⟨(at'.tmod (na : Int)).toNat, rfl, by omega, .inr ⟨by omega, by omega⟩⟩
  rcases hways with rfl | ⟨hpos, r, t, hr, ht, ⟨hneg, hsum⟩ | ⟨hge, rfl⟩⟩
  · obtain ⟨CC, hCC⟩ : ∃ CC, CC = a := ⟨_, rfl⟩
    have hCl : Len CC 0 := by rw [hCC]; exact hll
    have hC5 : Len (CC ++ [0]) 1 := Len.of (by rw [List.length_append, hCl.eq]; rfl)
    obtain ⟨xac, hxac⟩ : ∃ x, (a == CC) = x := ⟨_, rfl⟩
    have HX : ∀ _ : Unit, (a == CC) = xac := fun _ => hxac
    have HY : ∀ _ : Unit, (a == CC ++ [0]) = false := fun _ => beq_eq_false_iff_ne.2 fun h => by
      have := congrArg List.length h
      rw [hll.eq, hC5.eq] at this
      omega
    clear hxac
    go_wp2_with (first | ((with_reducible refine gL_append_B hM ?_); refine ⟨_, _, none, 0, 0, 5, [], a, 0, fun ob' cap' => [_, ⟨ob', 5, ([] ++ a).map B8, cap'⟩], rfl, rfl, rfl, (us_of rfl), (el_of rfl), (hll.eq ▸ (hM.bytes0 hva).src), fun _ _ => .there _ (.here _ _ _), hl0, hll, by decide, by omega, ?_⟩; rw [List.nil_append, Nat.zero_add]; intro ob1 cap3 _ hM2 hc1 hc2; clear hM; have hM := hM2; clear hM2; rw [← hCC] at hM) |
      (go_at_call 25; have hA := hM.bytes0 hva; have hB := hM.bytes0 hvb; (with_reducible refine (mac_Equal _ _ _ a b hA hB xab (HE ())).mono ?_); clear hA hB; rintro _ _ ⟨rfl, B1⟩; replace hM := hM.adds B1; clear B1) |
      (go_at_call 26; have hA := hM.bytes0 hva; have hB := hM.bytes0 hvb; (with_reducible refine (ref03_Equal _ _ _ a b hA hB xab (HE ())).mono ?_); clear hA hB; rintro _ _ ⟨rfl, B1⟩; replace hM := hM.adds B1; clear B1) |
      (go_at_call 25; have hA := hM.bytes0 hva; have hB := hM.bytes0 hvb; (with_reducible refine (mac_Equal _ _ _ b a hB hA xab (HF ())).mono ?_); clear hA hB; rintro _ _ ⟨rfl, B1⟩; replace hM := hM.adds B1; clear B1) |
      (go_at_call 25; have hA := hM.bytes0 hva; (with_reducible refine (mac_Equal _ _ _ a a hA hA true (beq_self_eq_true a)).mono ?_); clear hA; rintro _ _ ⟨rfl, B1⟩; replace hM := hM.adds B1; clear B1) |
      (go_at_call 25; have hA := hM.bytes0 hva; have hB : Bytes _ (sl ob1 0 cap3) CC := hM.whole (ob := ob1) (.tail _ (.head _)) hCl (by simpa [maxLen] using hc2); (with_reducible refine (mac_Equal _ _ _ a CC hA hB xac (HX ())).mono ?_); clear hA hB; rintro _ _ ⟨rfl, B1⟩; replace hM := hM.adds B1; clear B1) |
      (go_at_call 26; have hA := hM.bytes0 hva; have hB : Bytes _ (sl ob1 0 cap3) CC := hM.whole (ob := ob1) (.tail _ (.head _)) hCl (by simpa [maxLen] using hc2); (with_reducible refine (ref03_Equal _ _ _ a CC hA hB xac (HX ())).mono ?_); clear hA hB; rintro _ _ ⟨rfl, B1⟩; replace hM := hM.adds B1; clear B1) |
      ((with_reducible refine gG_buildBytes hM ?_ ?_); (exact wanted_of rfl rfl rfl rfl rfl); refine ⟨_, _, (us_of rfl), (el_of rfl), (by decide), (by decide), rfl, (by (repeat (first | exact EvB.nil | apply EvB.cons rfl (by first | exact (rfl : B8 _ = B8 _) | exact lit8 _ (by decide)))); done), ?_⟩; intro g0 _ hM2; clear hM; have hM := hM2; clear hM2) |
      ((with_reducible refine gG_append_B hM ?_ ?_); (exact wanted_of rfl rfl rfl rfl rfl); refine ⟨_, _, ob1, 0, cap3, 5, CC, [0], 1, fun ob' cap' => [_, _, ⟨ob', 5, (CC ++ [0]).map B8, cap'⟩], rfl, rfl, rfl, (us_of rfl), (el_of rfl), hM.src (.head _), fun _ _ => .there _ (.there _ (.here _ _ _)), hCl, rfl, hc2, by omega, ?_⟩; intro ob5 cap5 _ hM2 hd1 hd2; clear hM; have hM := hM2; clear hM2; obtain ⟨g5, hg5⟩ := hM.some_of (.tail _ (.tail _ (.head _))) (hC5.map B8) (by omega); subst hg5) |
      (go_at_call 25; have hA := hM.bytes0 hva; have hB : Bytes _ (.slice (some ⟨_, 0, none⟩) 1 _) (CC ++ [0]) := hM.whole (ob := some _) (.tail _ (.tail _ (.head _))) hC5 (by simpa [maxLen] using hd2); (with_reducible refine (mac_Equal _ _ _ a (CC ++ [0]) hA hB false (HY ())).mono ?_); clear hA hB; rintro _ _ ⟨rfl, B1⟩; replace hM := hM.adds B1; clear B1) |
      (go_at_call 27; (with_reducible refine (law03_fixed _).mono ?_); rintro _ _ ⟨rfl, B1⟩; replace hM := hM.adds B1; clear B1) | go_skip | ((first | (with_reducible refine gL_load ?_) | ((with_reducible refine gG_load ?_ ?_); (exact wanted_of rfl rfl rfl rfl rfl))); refine ⟨_, _, rfl, (by (first | (assumption) | (exact hM.loads_B8 (by (repeat (first | exact .head _ | apply List.Mem.tail)); done) (on_of rfl) (by first | omega | (simp only [Len] at *; omega) | (simp; omega))) | (exact hM.loads_all (by (repeat (first | exact .head _ | apply List.Mem.tail)); done) (ag_of rfl) (by first | assumption | exact Len.map (by assumption) _ | rfl | exact Len.map (by rfl) _ | exact Len.of (by simp; done))) | (exact hM.loads_one (by (repeat (first | exact .head _ | apply List.Mem.tail)); done) (on_of rfl) rfl) | (exact hM.loads_W32 (by (repeat (first | exact .head _ | apply List.Mem.tail)); done) (on_of rfl) (by first | omega | (simp only [Len] at *; omega) | (simp; omega))) | (exact loads_cell (by assumption) (on_of rfl)))), ?_⟩) | ((with_reducible refine gL_store hM ?_); refine ⟨_, _, _, rfl, rfl, (by (first | (exact hM.stores_B8 (by first | exact (rfl : B8 _ = B8 _) | exact lit8 _ (by decide)) (by (repeat (first | exact .here _ _ _ | apply Has.there)); done) (on_of rfl) (by first | omega | (simp only [Len] at *; omega) | (simp; omega))) | (exact hM.stores_all (by (repeat (first | exact .here _ _ _ | apply Has.there)); done) (ag_of rfl) (by first | assumption | exact Len.map (by assumption) _ | rfl | exact Len.map (by rfl) _ | exact Len.of (by simp; done)) (by first | assumption | exact Len.map (by assumption) _ | rfl | exact Len.map (by rfl) _ | exact Len.of (by simp; done)) (by first | exact B8_one | exact W32_one | exact one_of_all rfl)) | (exact hM.stores_W32 rfl (by (repeat (first | exact .here _ _ _ | apply Has.there)); done) (on_of rfl) (by first | omega | (simp only [Len] at *; omega) | (simp; omega))) | (exact hM.stores_one (by (repeat (first | exact .here _ _ _ | apply Has.there)); done) (on_of rfl) (by first | omega | (simp only [Len] at *; omega) | (simp; omega)) rfl rfl))), ?_⟩; intro _ hM2; clear hM; have hM := hM2; clear hM2) | ((with_reducible refine gL_alloc hM ?_); refine ⟨_, _, (zr_of rfl), ?_⟩; intro _ _ hM2; clear hM; have hM := hM2; clear hM2) | ((with_reducible refine gL_box hM ?_); refine ⟨_, _, _, rfl, rfl, (by first | assumption | exact Len.map (by assumption) _ | rfl | exact Len.map (by rfl) _ | exact Len.of (by simp; done)), ?_⟩; intro _ _ hM2; clear hM; have hM := hM2; clear hM2) | ((with_reducible refine gL_build0 ?_); refine ⟨_, _, _, _, _, _, (zr_of rfl), (ua_of rfl), (ag_of rfl), (el_of rfl), ?_⟩) | ((with_reducible refine gL_buildBytes hM ?_); refine ⟨_, _, (us_of rfl), (el_of rfl), (by decide), (by decide), rfl, (by (repeat (first | exact EvB.nil | apply EvB.cons rfl (by first | exact (rfl : B8 _ = B8 _) | exact lit8 _ (by decide)))); done), ?_⟩; intro _ _ hM2; clear hM; have hM := hM2; clear hM2) | ((with_reducible refine gL_append_B hM ?_); refine ⟨_, _, _, _, _, _, _, _, _, _, rfl, rfl, (by first | exact (rfl : Value.slice (some ⟨_, 0, none⟩) _ _ = sl (some _) _ _) | exact (rfl : Value.slice none _ _ = sl none _ _) | rfl), (us_of rfl), (el_of rfl), (by first | exact hM.src (by (repeat (first | exact .head _ | apply List.Mem.tail)); done) | exact (hM.bytes0 (by assumption)).src), (fun _ _ => by (repeat (first | exact .here _ _ _ | apply Swap.there)); done), (by first | assumption | exact Len.map (by assumption) _ | rfl | exact Len.map (by rfl) _ | exact Len.of (by simp; done)), (by first | assumption | exact Len.map (by assumption) _ | rfl | exact Len.map (by rfl) _ | exact Len.of (by simp; done)), (by first | assumption | (simp [maxLen]; done) | omega | (simp [maxLen]; omega)), (by first | omega | (simp only [Len] at *; omega) | (simp; omega)), ?_⟩; intro _ _ _ hM2 _ _; clear hM; have hM := hM2; clear hM2) | ((first | (with_reducible refine gL_field ?_) | ((with_reducible refine gG_field ?_ ?_); (exact wanted_of rfl rfl rfl rfl rfl))); refine ⟨_, _, rfl, (by (first | (exact field_one (fb_of rfl) rfl) | (exact field_agg (fa_of rfl) rfl))), ?_⟩))
    go_ret
    exact ⟨rfl, hM.done⟩
  · obtain ⟨CC, hCC⟩ : ∃ CC, CC = a.set t (gb a t ^^^ by') := ⟨_, rfl⟩
    have hCl : Len CC na := by rw [hCC]; exact hll.set _ _
    have hC5 : Len (CC ++ [0]) (na + 1) := Len.of (by rw [List.length_append, hCl.eq]; rfl)
    obtain ⟨xac, hxac⟩ : ∃ x, (a == CC) = x := ⟨_, rfl⟩
    have HX : ∀ _ : Unit, (a == CC) = xac := fun _ => hxac
    have HY : ∀ _ : Unit, (a == CC ++ [0]) = false := fun _ => beq_eq_false_iff_ne.2 fun h => by
      have := congrArg List.length h
      rw [hll.eq, hC5.eq] at this
      omega
    clear hxac
    have hposi : (0 : Int) < (na : Int) := by omega
    have hall : a.length = na := hll.eq
    have HCC : ∀ _ : Unit, CC = a.set t (gb a t ^^^ by') := fun _ => hCC
    clear hCC
    have hw : IntKind.i64.wrap (r + (na : Int)) = (t : Int) := by rw [wrapP_i64]; omega
    have hw2 : RowKit.wrap64 (r + (na : Int)) = (t : Int) := by unfold RowKit.wrap64; omega
    go_wp2_with (first | ((with_reducible refine gL_append_B hM ?_); refine ⟨_, _, none, 0, 0, 5, [], a, na, fun ob' cap' => [_, ⟨ob', 5, ([] ++ a).map B8, cap'⟩], rfl, rfl, rfl, (us_of rfl), (el_of rfl), (hll.eq ▸ (hM.bytes0 hva).src), fun _ _ => .there _ (.here _ _ _), hl0, hll, by decide, by omega, ?_⟩; rw [List.nil_append, Nat.zero_add]; intro ob1 cap3 _ hM2 hc1 hc2; clear hM; have hM := hM2; clear hM2; (obtain ⟨gp, hgp⟩ := hM.some_of (.tail _ (.head _)) (hll.map B8) hpos); subst hgp) |
      ((with_reducible refine gL_store hM ?_); refine ⟨_, _, _, rfl, rfl, hM.stores_B8 rfl (.there _ (.here _ _ _)) (on_of rfl) (by rw [hall]; exact ht), ?_⟩; intro _ hM2; clear hM; have hM := hM2; clear hM2; rw [← HCC ()] at hM) |
      (go_at_call 25; have hA := hM.bytes0 hva; have hB := hM.bytes0 hvb; (with_reducible refine (mac_Equal _ _ _ a b hA hB xab (HE ())).mono ?_); clear hA hB; rintro _ _ ⟨rfl, B1⟩; replace hM := hM.adds B1; clear B1) |
      (go_at_call 26; have hA := hM.bytes0 hva; have hB := hM.bytes0 hvb; (with_reducible refine (ref03_Equal _ _ _ a b hA hB xab (HE ())).mono ?_); clear hA hB; rintro _ _ ⟨rfl, B1⟩; replace hM := hM.adds B1; clear B1) |
      (go_at_call 25; have hA := hM.bytes0 hva; have hB := hM.bytes0 hvb; (with_reducible refine (mac_Equal _ _ _ b a hB hA xab (HF ())).mono ?_); clear hA hB; rintro _ _ ⟨rfl, B1⟩; replace hM := hM.adds B1; clear B1) |
      (go_at_call 25; have hA := hM.bytes0 hva; (with_reducible refine (mac_Equal _ _ _ a a hA hA true (beq_self_eq_true a)).mono ?_); clear hA; rintro _ _ ⟨rfl, B1⟩; replace hM := hM.adds B1; clear B1) |
      (go_at_call 25; have hA := hM.bytes0 hva; have hB : Bytes _ (.slice (some ⟨gp, 0, none⟩) na cap3) CC := hM.whole (ob := some gp) (.tail _ (.head _)) hCl (by simpa [maxLen] using hc2); (with_reducible refine (mac_Equal _ _ _ a CC hA hB xac (HX ())).mono ?_); clear hA hB; rintro _ _ ⟨rfl, B1⟩; replace hM := hM.adds B1; clear B1) |
      (go_at_call 26; have hA := hM.bytes0 hva; have hB : Bytes _ (.slice (some ⟨gp, 0, none⟩) na cap3) CC := hM.whole (ob := some gp) (.tail _ (.head _)) hCl (by simpa [maxLen] using hc2); (with_reducible refine (ref03_Equal _ _ _ a CC hA hB xac (HX ())).mono ?_); clear hA hB; rintro _ _ ⟨rfl, B1⟩; replace hM := hM.adds B1; clear B1) |
      ((with_reducible refine gG_buildBytes hM ?_ ?_); (exact wanted_of rfl rfl rfl rfl rfl); refine ⟨_, _, (us_of rfl), (el_of rfl), (by decide), (by decide), rfl, (by (repeat (first | exact EvB.nil | apply EvB.cons rfl (by first | exact (rfl : B8 _ = B8 _) | exact lit8 _ (by decide)))); done), ?_⟩; intro g0 _ hM2; clear hM; have hM := hM2; clear hM2) |
      ((with_reducible refine gG_append_B hM ?_ ?_); (exact wanted_of rfl rfl rfl rfl rfl); refine ⟨_, _, some gp, na, cap3, 5, CC, [0], 1, fun ob' cap' => [_, _, ⟨ob', 5, (CC ++ [0]).map B8, cap'⟩], rfl, rfl, rfl, (us_of rfl), (el_of rfl), hM.src (.head _), fun _ _ => .there _ (.there _ (.here _ _ _)), hCl, rfl, hc2, by omega, ?_⟩; intro ob5 cap5 _ hM2 hd1 hd2; clear hM; have hM := hM2; clear hM2; obtain ⟨g5, hg5⟩ := hM.some_of (.tail _ (.tail _ (.head _))) (hC5.map B8) (by omega); subst hg5) |
      (go_at_call 25; have hA := hM.bytes0 hva; have hB : Bytes _ (.slice (some ⟨_, 0, none⟩) (na + 1) _) (CC ++ [0]) := hM.whole (ob := some _) (.tail _ (.tail _ (.head _))) hC5 (by simpa [maxLen] using hd2); (with_reducible refine (mac_Equal _ _ _ a (CC ++ [0]) hA hB false (HY ())).mono ?_); clear hA hB; rintro _ _ ⟨rfl, B1⟩; replace hM := hM.adds B1; clear B1) |
      (go_at_call 27; (with_reducible refine (law03_fixed _).mono ?_); rintro _ _ ⟨rfl, B1⟩; replace hM := hM.adds B1; clear B1) | go_skip | ((first | (with_reducible refine gL_load ?_) | ((with_reducible refine gG_load ?_ ?_); (exact wanted_of rfl rfl rfl rfl rfl))); refine ⟨_, _, rfl, (by (first | (assumption) | (exact hM.loads_B8 (by (repeat (first | exact .head _ | apply List.Mem.tail)); done) (on_of rfl) (by first | omega | (simp only [Len] at *; omega) | (simp; omega))) | (exact hM.loads_all (by (repeat (first | exact .head _ | apply List.Mem.tail)); done) (ag_of rfl) (by first | assumption | exact Len.map (by assumption) _ | rfl | exact Len.map (by rfl) _ | exact Len.of (by simp; done))) | (exact hM.loads_one (by (repeat (first | exact .head _ | apply List.Mem.tail)); done) (on_of rfl) rfl) | (exact hM.loads_W32 (by (repeat (first | exact .head _ | apply List.Mem.tail)); done) (on_of rfl) (by first | omega | (simp only [Len] at *; omega) | (simp; omega))) | (exact loads_cell (by assumption) (on_of rfl)))), ?_⟩) | ((with_reducible refine gL_store hM ?_); refine ⟨_, _, _, rfl, rfl, (by (first | (exact hM.stores_B8 (by first | exact (rfl : B8 _ = B8 _) | exact lit8 _ (by decide)) (by (repeat (first | exact .here _ _ _ | apply Has.there)); done) (on_of rfl) (by first | omega | (simp only [Len] at *; omega) | (simp; omega))) | (exact hM.stores_all (by (repeat (first | exact .here _ _ _ | apply Has.there)); done) (ag_of rfl) (by first | assumption | exact Len.map (by assumption) _ | rfl | exact Len.map (by rfl) _ | exact Len.of (by simp; done)) (by first | assumption | exact Len.map (by assumption) _ | rfl | exact Len.map (by rfl) _ | exact Len.of (by simp; done)) (by first | exact B8_one | exact W32_one | exact one_of_all rfl)) | (exact hM.stores_W32 rfl (by (repeat (first | exact .here _ _ _ | apply Has.there)); done) (on_of rfl) (by first | omega | (simp only [Len] at *; omega) | (simp; omega))) | (exact hM.stores_one (by (repeat (first | exact .here _ _ _ | apply Has.there)); done) (on_of rfl) (by first | omega | (simp only [Len] at *; omega) | (simp; omega)) rfl rfl))), ?_⟩; intro _ hM2; clear hM; have hM := hM2; clear hM2) | ((with_reducible refine gL_alloc hM ?_); refine ⟨_, _, (zr_of rfl), ?_⟩; intro _ _ hM2; clear hM; have hM := hM2; clear hM2) | ((with_reducible refine gL_box hM ?_); refine ⟨_, _, _, rfl, rfl, (by first | assumption | exact Len.map (by assumption) _ | rfl | exact Len.map (by rfl) _ | exact Len.of (by simp; done)), ?_⟩; intro _ _ hM2; clear hM; have hM := hM2; clear hM2) | ((with_reducible refine gL_build0 ?_); refine ⟨_, _, _, _, _, _, (zr_of rfl), (ua_of rfl), (ag_of rfl), (el_of rfl), ?_⟩) | ((with_reducible refine gL_buildBytes hM ?_); refine ⟨_, _, (us_of rfl), (el_of rfl), (by decide), (by decide), rfl, (by (repeat (first | exact EvB.nil | apply EvB.cons rfl (by first | exact (rfl : B8 _ = B8 _) | exact lit8 _ (by decide)))); done), ?_⟩; intro _ _ hM2; clear hM; have hM := hM2; clear hM2) | ((with_reducible refine gL_append_B hM ?_); refine ⟨_, _, _, _, _, _, _, _, _, _, rfl, rfl, (by first | exact (rfl : Value.slice (some ⟨_, 0, none⟩) _ _ = sl (some _) _ _) | exact (rfl : Value.slice none _ _ = sl none _ _) | rfl), (us_of rfl), (el_of rfl), (by first | exact hM.src (by (repeat (first | exact .head _ | apply List.Mem.tail)); done) | exact (hM.bytes0 (by assumption)).src), (fun _ _ => by (repeat (first | exact .here _ _ _ | apply Swap.there)); done), (by first | assumption | exact Len.map (by assumption) _ | rfl | exact Len.map (by rfl) _ | exact Len.of (by simp; done)), (by first | assumption | exact Len.map (by assumption) _ | rfl | exact Len.map (by rfl) _ | exact Len.of (by simp; done)), (by first | assumption | (simp [maxLen]; done) | omega | (simp [maxLen]; omega)), (by first | omega | (simp only [Len] at *; omega) | (simp; omega)), ?_⟩; intro _ _ _ hM2 _ _; clear hM; have hM := hM2; clear hM2) | ((first | (with_reducible refine gL_field ?_) | ((with_reducible refine gG_field ?_ ?_); (exact wanted_of rfl rfl rfl rfl rfl))); refine ⟨_, _, rfl, (by (first | (exact field_one (fb_of rfl) rfl) | (exact field_agg (fa_of rfl) rfl))), ?_⟩))
    go_ret
    exact ⟨rfl, hM.done⟩
  · obtain ⟨CC, hCC⟩ : ∃ CC, CC = a.set t (gb a t ^^^ by') := ⟨_, rfl⟩
    have hCl : Len CC na := by rw [hCC]; exact hll.set _ _
    have hC5 : Len (CC ++ [0]) (na + 1) := Len.of (by rw [List.length_append, hCl.eq]; rfl)
    obtain ⟨xac, hxac⟩ : ∃ x, (a == CC) = x := ⟨_, rfl⟩
    have HX : ∀ _ : Unit, (a == CC) = xac := fun _ => hxac
    have HY : ∀ _ : Unit, (a == CC ++ [0]) = false := fun _ => beq_eq_false_iff_ne.2 fun h => by
      have := congrArg List.length h
      rw [hll.eq, hC5.eq] at this
      omega
    clear hxac
    have hposi : (0 : Int) < (na : Int) := by omega
    have hall : a.length = na := hll.eq
    have HCC : ∀ _ : Unit, CC = a.set t (gb a t ^^^ by') := fun _ => hCC
    clear hCC
    go_wp2_with (first | ((with_reducible refine gL_append_B hM ?_); refine ⟨_, _, none, 0, 0, 5, [], a, na, fun ob' cap' => [_, ⟨ob', 5, ([] ++ a).map B8, cap'⟩], rfl, rfl, rfl, (us_of rfl), (el_of rfl), (hll.eq ▸ (hM.bytes0 hva).src), fun _ _ => .there _ (.here _ _ _), hl0, hll, by decide, by omega, ?_⟩; rw [List.nil_append, Nat.zero_add]; intro ob1 cap3 _ hM2 hc1 hc2; clear hM; have hM := hM2; clear hM2; (obtain ⟨gp, hgp⟩ := hM.some_of (.tail _ (.head _)) (hll.map B8) hpos); subst hgp) |
      ((with_reducible refine gL_store hM ?_); refine ⟨_, _, _, rfl, rfl, hM.stores_B8 rfl (.there _ (.here _ _ _)) (on_of rfl) (by rw [hall]; exact ht), ?_⟩; intro _ hM2; clear hM; have hM := hM2; clear hM2; rw [← HCC ()] at hM) |
      (go_at_call 25; have hA := hM.bytes0 hva; have hB := hM.bytes0 hvb; (with_reducible refine (mac_Equal _ _ _ a b hA hB xab (HE ())).mono ?_); clear hA hB; rintro _ _ ⟨rfl, B1⟩; replace hM := hM.adds B1; clear B1) |
      (go_at_call 26; have hA := hM.bytes0 hva; have hB := hM.bytes0 hvb; (with_reducible refine (ref03_Equal _ _ _ a b hA hB xab (HE ())).mono ?_); clear hA hB; rintro _ _ ⟨rfl, B1⟩; replace hM := hM.adds B1; clear B1) |
      (go_at_call 25; have hA := hM.bytes0 hva; have hB := hM.bytes0 hvb; (with_reducible refine (mac_Equal _ _ _ b a hB hA xab (HF ())).mono ?_); clear hA hB; rintro _ _ ⟨rfl, B1⟩; replace hM := hM.adds B1; clear B1) |
      (go_at_call 25; have hA := hM.bytes0 hva; (with_reducible refine (mac_Equal _ _ _ a a hA hA true (beq_self_eq_true a)).mono ?_); clear hA; rintro _ _ ⟨rfl, B1⟩; replace hM := hM.adds B1; clear B1) |
      (go_at_call 25; have hA := hM.bytes0 hva; have hB : Bytes _ (.slice (some ⟨gp, 0, none⟩) na cap3) CC := hM.whole (ob := some gp) (.tail _ (.head _)) hCl (by simpa [maxLen] using hc2); (with_reducible refine (mac_Equal _ _ _ a CC hA hB xac (HX ())).mono ?_); clear hA hB; rintro _ _ ⟨rfl, B1⟩; replace hM := hM.adds B1; clear B1) |
      (go_at_call 26; have hA := hM.bytes0 hva; have hB : Bytes _ (.slice (some ⟨gp, 0, none⟩) na cap3) CC := hM.whole (ob := some gp) (.tail _ (.head _)) hCl (by simpa [maxLen] using hc2); (with_reducible refine (ref03_Equal _ _ _ a CC hA hB xac (HX ())).mono ?_); clear hA hB; rintro _ _ ⟨rfl, B1⟩; replace hM := hM.adds B1; clear B1) |
      ((with_reducible refine gG_buildBytes hM ?_ ?_); (exact wanted_of rfl rfl rfl rfl rfl); refine ⟨_, _, (us_of rfl), (el_of rfl), (by decide), (by decide), rfl, (by (repeat (first | exact EvB.nil | apply EvB.cons rfl (by first | exact (rfl : B8 _ = B8 _) | exact lit8 _ (by decide)))); done), ?_⟩; intro g0 _ hM2; clear hM; have hM := hM2; clear hM2) |
      ((with_reducible refine gG_append_B hM ?_ ?_); (exact wanted_of rfl rfl rfl rfl rfl); refine ⟨_, _, some gp, na, cap3, 5, CC, [0], 1, fun ob' cap' => [_, _, ⟨ob', 5, (CC ++ [0]).map B8, cap'⟩], rfl, rfl, rfl, (us_of rfl), (el_of rfl), hM.src (.head _), fun _ _ => .there _ (.there _ (.here _ _ _)), hCl, rfl, hc2, by omega, ?_⟩; intro ob5 cap5 _ hM2 hd1 hd2; clear hM; have hM := hM2; clear hM2; obtain ⟨g5, hg5⟩ := hM.some_of (.tail _ (.tail _ (.head _))) (hC5.map B8) (by omega); subst hg5) |
      (go_at_call 25; have hA := hM.bytes0 hva; have hB : Bytes _ (.slice (some ⟨_, 0, none⟩) (na + 1) _) (CC ++ [0]) := hM.whole (ob := some _) (.tail _ (.tail _ (.head _))) hC5 (by simpa [maxLen] using hd2); (with_reducible refine (mac_Equal _ _ _ a (CC ++ [0]) hA hB false (HY ())).mono ?_); clear hA hB; rintro _ _ ⟨rfl, B1⟩; replace hM := hM.adds B1; clear B1) |
      (go_at_call 27; (with_reducible refine (law03_fixed _).mono ?_); rintro _ _ ⟨rfl, B1⟩; replace hM := hM.adds B1; clear B1) | go_skip | ((first | (with_reducible refine gL_load ?_) | ((with_reducible refine gG_load ?_ ?_); (exact wanted_of rfl rfl rfl rfl rfl))); refine ⟨_, _, rfl, (by (first | (assumption) | (exact hM.loads_B8 (by (repeat (first | exact .head _ | apply List.Mem.tail)); done) (on_of rfl) (by first | omega | (simp only [Len] at *; omega) | (simp; omega))) | (exact hM.loads_all (by (repeat (first | exact .head _ | apply List.Mem.tail)); done) (ag_of rfl) (by first | assumption | exact Len.map (by assumption) _ | rfl | exact Len.map (by rfl) _ | exact Len.of (by simp; done))) | (exact hM.loads_one (by (repeat (first | exact .head _ | apply List.Mem.tail)); done) (on_of rfl) rfl) | (exact hM.loads_W32 (by (repeat (first | exact .head _ | apply List.Mem.tail)); done) (on_of rfl) (by first | omega | (simp only [Len] at *; omega) | (simp; omega))) | (exact loads_cell (by assumption) (on_of rfl)))), ?_⟩) | ((with_reducible refine gL_store hM ?_); refine ⟨_, _, _, rfl, rfl, (by (first | (exact hM.stores_B8 (by first | exact (rfl : B8 _ = B8 _) | exact lit8 _ (by decide)) (by (repeat (first | exact .here _ _ _ | apply Has.there)); done) (on_of rfl) (by first | omega | (simp only [Len] at *; omega) | (simp; omega))) | (exact hM.stores_all (by (repeat (first | exact .here _ _ _ | apply Has.there)); done) (ag_of rfl) (by first | assumption | exact Len.map (by assumption) _ | rfl | exact Len.map (by rfl) _ | exact Len.of (by simp; done)) (by first | assumption | exact Len.map (by assumption) _ | rfl | exact Len.map (by rfl) _ | exact Len.of (by simp; done)) (by first | exact B8_one | exact W32_one | exact one_of_all rfl)) | (exact hM.stores_W32 rfl (by (repeat (first | exact .here _ _ _ | apply Has.there)); done) (on_of rfl) (by first | omega | (simp only [Len] at *; omega) | (simp; omega))) | (exact hM.stores_one (by (repeat (first | exact .here _ _ _ | apply Has.there)); done) (on_of rfl) (by first | omega | (simp only [Len] at *; omega) | (simp; omega)) rfl rfl))), ?_⟩; intro _ hM2; clear hM; have hM := hM2; clear hM2) | ((with_reducible refine gL_alloc hM ?_); refine ⟨_, _, (zr_of rfl), ?_⟩; intro _ _ hM2; clear hM; have hM := hM2; clear hM2) | ((with_reducible refine gL_box hM ?_); refine ⟨_, _, _, rfl, rfl, (by first | assumption | exact Len.map (by assumption) _ | rfl | exact Len.map (by rfl) _ | exact Len.of (by simp; done)), ?_⟩; intro _ _ hM2; clear hM; have hM := hM2; clear hM2) | ((with_reducible refine gL_build0 ?_); refine ⟨_, _, _, _, _, _, (zr_of rfl), (ua_of rfl), (ag_of rfl), (el_of rfl), ?_⟩) | ((with_reducible refine gL_buildBytes hM ?_); refine ⟨_, _, (us_of rfl), (el_of rfl), (by decide), (by decide), rfl, (by (repeat (first | exact EvB.nil | apply EvB.cons rfl (by first | exact (rfl : B8 _ = B8 _) | exact lit8 _ (by decide)))); done), ?_⟩; intro _ _ hM2; clear hM; have hM := hM2; clear hM2) | ((with_reducible refine gL_append_B hM ?_); refine ⟨_, _, _, _, _, _, _, _, _, _, rfl, rfl, (by first | exact (rfl : Value.slice (some ⟨_, 0, none⟩) _ _ = sl (some _) _ _) | exact (rfl : Value.slice none _ _ = sl none _ _) | rfl), (us_of rfl), (el_of rfl), (by first | exact hM.src (by (repeat (first | exact .head _ | apply List.Mem.tail)); done) | exact (hM.bytes0 (by assumption)).src), (fun _ _ => by (repeat (first | exact .here _ _ _ | apply Swap.there)); done), (by first | assumption | exact Len.map (by assumption) _ | rfl | exact Len.map (by rfl) _ | exact Len.of (by simp; done)), (by first | assumption | exact Len.map (by assumption) _ | rfl | exact Len.map (by rfl) _ | exact Len.of (by simp; done)), (by first | assumption | (simp [maxLen]; done) | omega | (simp [maxLen]; omega)), (by first | omega | (simp only [Len] at *; omega) | (simp; omega)), ?_⟩; intro _ _ _ hM2 _ _; clear hM; have hM := hM2; clear hM2) | ((first | (with_reducible refine gL_field ?_) | ((with_reducible refine gG_field ?_ ?_); (exact wanted_of rfl rfl rfl rfl rfl))); refine ⟨_, _, rfl, (by (first | (exact field_one (fb_of rfl) rfl) | (exact field_agg (fa_of rfl) rfl))), ?_⟩))
    go_ret
    exact ⟨rfl, hM.done⟩
end Go.Proofs.Ytejmbkljnhnklaa
