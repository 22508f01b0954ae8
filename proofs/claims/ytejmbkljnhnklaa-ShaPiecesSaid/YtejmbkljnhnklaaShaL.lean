/-
  The walks of layer 2's 'fixed', and of ShaHashes.
-/
import Derived.Test.YtejmbkljnhnklaaShaE
namespace Go.Proofs.Ytejmbkljnhnklaa
open Go.RowKit Go.PK

theorem abc_hash : Sha.of [97, 98, 99] = [0xba, 0x78, 0x16, 0xbf, 0x8f, 0x01, 0xcf, 0xea, 0x41, 0x41, 0x40, 0xde, 0x5d, 0xae, 0x22, 0x23, 0xb0, 0x03, 0x61, 0xa3, 0x96, 0x17, 0x7a, 0x9c, 0xb4, 0x10, 0xff, 0x61, 0xf2, 0x00, 0x15, 0xad] := by decide +kernel
set_option maxRecDepth 100000 in
set_option maxHeartbeats 4000000 in
theorem law02_fixed (w0 : World) : Calls Try.prog 20 #[] w0 fun e w' => e = .returned (.bool true) ∧ Below w0.heap.size w0 w' := by
  have hM := Mem.start w0
  have habc := abc_hash
  have hof : ∀ w v, Bytes w v [97, 98, 99] → Calls Try.prog 18 #[v] w fun e w' => e = .returned (.agg ((Sha.of [97, 98, 99]).map B8).toArray) ∧ Below w.heap.size w w' := fun w v h => sha_Of w v _ h (by decide)
  rw [habc] at hof
  clear habc
  have g0 : gb [0xba, 0x78, 0x16, 0xbf, 0x8f, 0x01, 0xcf, 0xea, 0x41, 0x41, 0x40, 0xde, 0x5d, 0xae, 0x22, 0x23, 0xb0, 0x03, 0x61, 0xa3, 0x96, 0x17, 0x7a, 0x9c, 0xb4, 0x10, 0xff, 0x61, 0xf2, 0x00, 0x15, 0xad] 0 = 186 := rfl
  have g1 : gb [0xba, 0x78, 0x16, 0xbf, 0x8f, 0x01, 0xcf, 0xea, 0x41, 0x41, 0x40, 0xde, 0x5d, 0xae, 0x22, 0x23, 0xb0, 0x03, 0x61, 0xa3, 0x96, 0x17, 0x7a, 0x9c, 0xb4, 0x10, 0xff, 0x61, 0xf2, 0x00, 0x15, 0xad] 1 = 120 := rfl
  have g15 : gb [0xba, 0x78, 0x16, 0xbf, 0x8f, 0x01, 0xcf, 0xea, 0x41, 0x41, 0x40, 0xde, 0x5d, 0xae, 0x22, 0x23, 0xb0, 0x03, 0x61, 0xa3, 0x96, 0x17, 0x7a, 0x9c, 0xb4, 0x10, 0xff, 0x61, 0xf2, 0x00, 0x15, 0xad] 15 = 35 := rfl
  have g31 : gb [0xba, 0x78, 0x16, 0xbf, 0x8f, 0x01, 0xcf, 0xea, 0x41, 0x41, 0x40, 0xde, 0x5d, 0xae, 0x22, 0x23, 0xb0, 0x03, 0x61, 0xa3, 0x96, 0x17, 0x7a, 0x9c, 0xb4, 0x10, 0xff, 0x61, 0xf2, 0x00, 0x15, 0xad] 31 = 173 := rfl
  have h32 : Len ([0xba, 0x78, 0x16, 0xbf, 0x8f, 0x01, 0xcf, 0xea, 0x41, 0x41, 0x40, 0xde, 0x5d, 0xae, 0x22, 0x23, 0xb0, 0x03, 0x61, 0xa3, 0x96, 0x17, 0x7a, 0x9c, 0xb4, 0x10, 0xff, 0x61, 0xf2, 0x00, 0x15, 0xad] : List UInt8) 32 := rfl
  generalize ([0xba, 0x78, 0x16, 0xbf, 0x8f, 0x01, 0xcf, 0xea, 0x41, 0x41, 0x40, 0xde, 0x5d, 0xae, 0x22, 0x23, 0xb0, 0x03, 0x61, 0xa3, 0x96, 0x17, 0x7a, 0x9c, 0xb4, 0x10, 0xff, 0x61, 0xf2, 0x00, 0x15, 0xad] : List UInt8) = H at *
  go_enter Try.func20, Try.ntmps20
  have hH : H.length = 32 := h32.eq
  go_wp2_with (first | (go_at_call 18; have hvw : Bytes _ (.slice (some ⟨_, 0, none⟩) 3 3) [97, 98, 99] := hM.whole (n := 3) (l := [97, 98, 99]) (N := 3) (.head _) rfl (by decide); (with_reducible refine (hof _ _ hvw).mono ?_); clear hvw; rintro _ _ ⟨rfl, B1⟩; replace hM := hM.adds B1; clear B1) | go_skip | ((first | (with_reducible refine gL_load ?_) | ((with_reducible refine gG_load ?_ ?_); (exact wanted_of rfl rfl rfl rfl rfl))); refine ⟨_, _, rfl, (by (first | (assumption) | (exact hM.loads_B8 (by (repeat (first | exact .head _ | apply List.Mem.tail)); done) (on_of rfl) (by first | omega | (simp only [Len] at *; omega) | (simp; omega))) | (exact hM.loads_all (by (repeat (first | exact .head _ | apply List.Mem.tail)); done) (ag_of rfl) (by first | assumption | exact Len.map (by assumption) _ | rfl | exact Len.map (by rfl) _ | exact Len.of (by simp; done) | exact h32 | exact Len.map (h32) _)) | (exact hM.loads_one (by (repeat (first | exact .head _ | apply List.Mem.tail)); done) (on_of rfl) rfl) | (exact hM.loads_W32 (by (repeat (first | exact .head _ | apply List.Mem.tail)); done) (on_of rfl) (by first | omega | (simp only [Len] at *; omega) | (simp; omega))) | (exact loads_cell (by assumption) (on_of rfl)))), ?_⟩) | ((with_reducible refine gL_store hM ?_); refine ⟨_, _, _, rfl, rfl, (by (first | (exact hM.stores_B8 (by first | exact (rfl : B8 _ = B8 _) | exact lit8 _ (by decide)) (by (repeat (first | exact .here _ _ _ | apply Has.there)); done) (on_of rfl) (by first | omega | (simp only [Len] at *; omega) | (simp; omega))) | (exact hM.stores_all (by (repeat (first | exact .here _ _ _ | apply Has.there)); done) (ag_of rfl) (by first | assumption | exact Len.map (by assumption) _ | rfl | exact Len.map (by rfl) _ | exact Len.of (by simp; done) | exact h32 | exact Len.map (h32) _) (by first | assumption | exact Len.map (by assumption) _ | rfl | exact Len.map (by rfl) _ | exact Len.of (by simp; done) | exact h32 | exact Len.map (h32) _) (by first | exact B8_one | exact W32_one | exact one_of_all rfl)) | (exact hM.stores_W32 rfl (by (repeat (first | exact .here _ _ _ | apply Has.there)); done) (on_of rfl) (by first | omega | (simp only [Len] at *; omega) | (simp; omega))) | (exact hM.stores_one (by (repeat (first | exact .here _ _ _ | apply Has.there)); done) (on_of rfl) (by first | omega | (simp only [Len] at *; omega) | (simp; omega)) rfl rfl))), ?_⟩; intro _ hM2; clear hM; have hM := hM2; clear hM2) | ((with_reducible refine gL_alloc hM ?_); refine ⟨_, _, (zr_of rfl), ?_⟩; intro _ _ hM2; clear hM; have hM := hM2; clear hM2) | ((with_reducible refine gL_box hM ?_); refine ⟨_, _, _, rfl, rfl, (by first | assumption | exact Len.map (by assumption) _ | rfl | exact Len.map (by rfl) _ | exact Len.of (by simp; done) | exact h32 | exact Len.map (h32) _), ?_⟩; intro _ _ hM2; clear hM; have hM := hM2; clear hM2) | ((with_reducible refine gL_build0 ?_); refine ⟨_, _, _, _, _, _, (zr_of rfl), (ua_of rfl), (ag_of rfl), (el_of rfl), ?_⟩) | ((with_reducible refine gL_buildBytes hM ?_); refine ⟨_, _, (us_of rfl), (el_of rfl), (by decide), (by decide), rfl, (by (repeat (first | exact EvB.nil | apply EvB.cons rfl (by first | exact (rfl : B8 _ = B8 _) | exact lit8 _ (by decide)))); done), ?_⟩; intro _ _ hM2; clear hM; have hM := hM2; clear hM2) | ((with_reducible refine gL_append_B hM ?_); refine ⟨_, _, _, _, _, _, _, _, _, _, rfl, rfl, (by first | exact (rfl : Value.slice (some ⟨_, 0, none⟩) _ _ = sl (some _) _ _) | exact (rfl : Value.slice none _ _ = sl none _ _) | rfl), (us_of rfl), (el_of rfl), (by first | exact hM.src (by (repeat (first | exact .head _ | apply List.Mem.tail)); done) | exact (hM.bytes0 (by assumption)).src), (fun _ _ => by (repeat (first | exact .here _ _ _ | apply Swap.there)); done), (by first | assumption | exact Len.map (by assumption) _ | rfl | exact Len.map (by rfl) _ | exact Len.of (by simp; done) | exact h32 | exact Len.map (h32) _), (by first | assumption | exact Len.map (by assumption) _ | rfl | exact Len.map (by rfl) _ | exact Len.of (by simp; done) | exact h32 | exact Len.map (h32) _), (by first | assumption | (simp [maxLen]; done) | omega | (simp [maxLen]; omega)), (by first | omega | (simp only [Len] at *; omega) | (simp; omega)), ?_⟩; intro _ _ _ hM2 _ _; clear hM; have hM := hM2; clear hM2) | ((first | (with_reducible refine gL_field ?_) | ((with_reducible refine gG_field ?_ ?_); (exact wanted_of rfl rfl rfl rfl rfl))); refine ⟨_, _, rfl, (by (first | (exact field_one (fb_of rfl) rfl) | (exact field_agg (fa_of rfl) rfl))), ?_⟩))
  go_ret
  exact ⟨rfl, hM.done⟩

set_option maxRecDepth 100000 in
set_option maxHeartbeats 4000000 in
theorem ShaHashes_walk (w0 : World) (v : Value) (l : List UInt8) (hv : Bytes w0 v l) (hl : l.length ≤ 140737488351232) (n : Int) (hn : -9223372036854775808 ≤ n ∧ n ≤ 9223372036854775807) :
    Calls Try.prog 3 #[v, .int .i64 n] w0 fun e w' => e = .returned (.bool true) ∧ Below w0.heap.size w0 w' := by
  have hM := Mem.start w0
  have hof : ∀ w v l', Bytes w v l' → l'.length ≤ l.length → Calls Try.prog 18 #[v] w fun e w' => e = .returned (.agg ((Sha.of l').map B8).toArray) ∧ Below w.heap.size w w' := fun w v l' h hl' => sha_Of w v _ h (by omega)
  have href : ∀ w v l', Bytes w v l' → l'.length ≤ l.length → Calls Try.prog 19 #[v] w fun e w' => e = .returned (.agg ((Sha.of l').map B8).toArray) ∧ Below w.heap.size w w' := fun w v l' h hl' => ref02_Of w v _ h (by omega)
  have hlen : ∀ l', Len (Sha.of l') 32 := fun l' => Len.of (Sha.of_len l')
  generalize Sha.of = H at *
  obtain ⟨ao, cap, rfl, e1, e2, -⟩ := id hv
  go_enter Try.func3, Try.ntmps3
  go_wp2_with (first | (go_at_call 18; have hvw := hM.bytes0 hv; (with_reducible refine (hof _ _ l hvw (Nat.le_refl _)).mono ?_); clear hvw; rintro _ _ ⟨rfl, B1⟩; replace hM := hM.adds B1; clear B1) |
    (go_at_call 19; have hvw := hM.bytes0 hv; (with_reducible refine (href _ _ l hvw (Nat.le_refl _)).mono ?_); clear hvw; rintro _ _ ⟨rfl, B1⟩; replace hM := hM.adds B1; clear B1) |
    ((with_reducible refine gL_neq ?_); refine ⟨_, _, _, rfl, rfl, hash_self _ (hlen l), ?_⟩))
  have hways : n < 0 ∨ (l.length : Int) < n ∨ ∃ k : Nat, n = (k : Int) ∧ k ≤ l.length := by
    by_cases h0 : n < 0
    · exact .inl h0
    · by_cases h1 : (l.length : Int) < n
      · exact .inr (.inl h1)
      · exact .inr (.inr ⟨n.toNat, by omega, by omega⟩)
  rcases hways with h0 | h0 | ⟨k, rfl, hk⟩
  · skip
    try simp only [Act.put, List.setIfInBounds_toArray, List.set_cons_succ, List.set_cons_zero]
    refine wp_region_tail 19 (by decide) (fun c vals => ⟨#[(Value.slice ao l.length cap : Value), (Value.int .i64 n : Value), c 2, c 3, c 4, c 5, c 6, c 7, c 8, c 9, vals 0, vals 1, vals 2, vals 3, vals 4, vals 5, vals 6, vals 7, vals 8, vals 9, vals 10, vals 11, vals 12, vals 13, vals 14, vals 15, vals 16, vals 17, vals 18, c 29], []⟩) (fun t => [undef, undef, _, _, _, _, _, _, _, _, undef, undef, undef, undef, undef, undef, undef, undef, undef, undef, undef, undef, undef, undef, undef, undef, undef, undef, undef, _].getD t undef) (fun i => [_, _, _, _, _, _, _, _, _, _, _, _, _, _, _, _, _, _, _].getD i undef) (by kernel_rfl)
      [[], [0], [0, 1], [0, 1, 2], [0, 1, 2], [0, 1, 2, 4], [0, 1, 2, 3, 4, 5], [0, 1, 2, 3, 4, 5, 6], [0, 1, 2, 3, 4, 5, 6, 7], [0, 1, 2, 3, 4, 5, 6, 7, 8], [0, 1, 2, 3, 4, 5, 6, 7, 8], [0, 1, 2, 3, 4, 5, 6, 7, 8, 9, 10], [0, 1, 2, 3, 4, 5, 6, 7, 8, 9, 10, 11], [0, 1, 2, 3, 4, 5, 6, 7, 8], [0, 1, 2, 3, 4, 5, 6, 7, 8], [0, 1, 2, 3, 4, 5, 6, 7, 8, 13, 14], [0, 1, 2, 3, 4, 5, 6, 7, 8, 9, 10, 11, 12, 13, 14, 15], [0, 1, 2, 3, 4, 5, 6, 7, 8, 9, 10, 11, 12, 13, 14, 15, 16], [0, 1, 2, 3, 4, 5, 6, 7, 8, 9, 10, 11, 12, 13, 14, 15, 16, 17]] (by kernel_rfl) (by kernel_rfl) (fun _ => True) trivial
      [fun x _ => x = (Value.int .i64 n : Value),
       fun x _ => x = (Value.bool false : Value),
       fun x _ => x = (Value.bool false : Value),
       fun x _ => x = (undef : Value),
       fun x _ => x = (undef : Value),
       fun x _ => x = (undef : Value),
       fun x _ => x = (undef : Value),
       fun x _ => x = ((Value.bool false) : Value),
       fun x _ => x = ((Value.bool false) : Value),
       fun x _ => x = (undef : Value),
       fun x _ => x = (undef : Value),
       fun x _ => x = (undef : Value),
       fun x _ => x = (undef : Value),
       fun x _ => x = (undef : Value),
       fun x _ => x = (undef : Value),
       fun x _ => x = (undef : Value),
       fun x _ => x = (undef : Value),
       fun x _ => x = (undef : Value),
       fun x _ => x = ((Value.bool false) : Value)]
      ⟨fun _ _ _ h _ => h, fun _ _ _ h _ => h, fun _ _ _ h _ => h, fun _ _ _ h _ => h, fun _ _ _ h _ => h, fun _ _ _ h _ => h, fun _ _ _ h _ => h, fun _ _ _ h _ => h, fun _ _ _ h _ => h, fun _ _ _ h _ => h, fun _ _ _ h _ => h, fun _ _ _ h _ => h, fun _ _ _ h _ => h, fun _ _ _ h _ => h, fun _ _ _ h _ => h, fun _ _ _ h _ => h, fun _ _ _ h _ => h, fun _ _ _ h _ => h, fun _ _ _ h _ => h, trivial⟩ []
      ⟨?_, ?_, ?_, ?_, ?_, ?_, ?_, ?_, ?_, ?_, ?_, ?_, ?_, ?_, ?_, ?_, ?_, ?_, ?_, trivial⟩ ?_
    · refine showA_op 0 (by intro _ _ _; kernel_rfl) rfl rfl (fun c vals w hC hD => ?_)
      clear hD
      refine makes1 (x := .tmp 1) (X := Value.int .i64 n) (by kernel_rfl : _ = (Value.int .i64 n : Value)) (fun ρ rc rf q1 => ?_)
      exact makes_move (.inl rfl) q1 ⟨Adds.refl _, rfl⟩
    · refine showA_op 1 (by intro _ _ _; kernel_rfl) rfl rfl (fun c vals w hC hD => ?_)
      have h0 : vals 0 = .int .i64 n := hD 0 rfl
      clear hD
      refine makes1 (x := .tmp 10) (X := Value.int .i64 n) ((by kernel_rfl : _ = vals 0).trans h0) (fun ρ rc rf q10 => ?_)
      clear h0
      refine makes_value (v := Value.bool false) ?_ ⟨Adds.refl _, rfl⟩
      go_simp
      all_goals first | done | rfl | (rw [if_pos (by omega)]; refine congrArg (fun x => Result.ok (Next.value (Value.pointer (some ⟨_, x, none⟩))) _) ?_; omega) | (rw [wrapP_i64]; omega) | go_num | (simp; done) | (simp; omega) | (congr 1; first | rfl | (rw [wrapP_i64]; omega) | (congr 1; first | rfl | (simp; done) | (simp; omega) | (congr 2; omega) | go_num))
    · refine showA_op 2 (by intro _ _ _; kernel_rfl) rfl rfl (fun c vals w hC hD => ?_)
      have h1 : vals 1 = .bool false := hD 1 rfl
      clear hD
      refine makes1 (x := .tmp 11) (X := Value.bool false) ((by kernel_rfl : _ = vals 1).trans h1) (fun ρ rc rf q11 => ?_)
      clear h1
      exact makes_move (.inl rfl) q11 ⟨Adds.refl _, rfl⟩
    · refine showA_not 3 (by intro _ _ _; kernel_rfl) (j := 2) (want := true) rfl rfl rfl (by intro _ _; kernel_rfl) rfl (fun vals w hC hD => ⟨hD 2 rfl, rfl⟩)
    · refine showA_not 4 (by intro _ _ _; kernel_rfl) (j := 2) (want := true) rfl rfl rfl (by intro _ _; kernel_rfl) rfl (fun vals w hC hD => ⟨hD 2 rfl, rfl⟩)
    · refine showA_not 5 (by intro _ _ _; kernel_rfl) (j := 2) (want := true) rfl rfl rfl (by intro _ _; kernel_rfl) rfl (fun vals w hC hD => ⟨hD 2 rfl, rfl⟩)
    · refine showA_not 6 (by intro _ _ _; kernel_rfl) (j := 2) (want := true) rfl rfl rfl (by intro _ _; kernel_rfl) rfl (fun vals w hC hD => ⟨hD 2 rfl, rfl⟩)
    · refine showA_op 7 (by intro _ _ _; kernel_rfl) rfl rfl (fun c vals w hC hD => ?_)
      have h2 : vals 2 = .bool false := hD 2 rfl
      have h6 : vals 6 = undef := hD 6 rfl
      clear hD
      refine makes2 (x := .tmp 12) (X := Value.bool false) (y := .tmp 16) (Y := undef) ((by kernel_rfl : _ = vals 2).trans h2) ((by kernel_rfl : _ = vals 6).trans h6) (fun ρ rc rf q12 q16 => ?_)
      clear h2 h6
      refine makes_value (v := (Value.bool false)) ?_ ⟨Adds.refl _, rfl⟩
      go_simp
      all_goals first | done | rfl | (rw [if_pos (by omega)]; refine congrArg (fun x => Result.ok (Next.value (Value.pointer (some ⟨_, x, none⟩))) _) ?_; omega) | (rw [wrapP_i64]; omega) | go_num | (simp; done) | (simp; omega) | (congr 1; first | rfl | (rw [wrapP_i64]; omega) | (congr 1; first | rfl | (simp; done) | (simp; omega) | (congr 2; omega) | go_num))
    · refine showA_op 8 (by intro _ _ _; kernel_rfl) rfl rfl (fun c vals w hC hD => ?_)
      have h7 : vals 7 = (Value.bool false) := hD 7 rfl
      clear hD
      refine makes1 (x := .tmp 17) (X := (Value.bool false)) ((by kernel_rfl : _ = vals 7).trans h7) (fun ρ rc rf q17 => ?_)
      clear h7
      exact makes_move (.inl rfl) q17 ⟨Adds.refl _, rfl⟩
    · refine showA_not 9 (by intro _ _ _; kernel_rfl) (j := 8) (want := true) rfl rfl rfl (by intro _ _; kernel_rfl) rfl (fun vals w hC hD => ⟨hD 8 rfl, rfl⟩)
    · refine showA_not 10 (by intro _ _ _; kernel_rfl) (j := 8) (want := true) rfl rfl rfl (by intro _ _; kernel_rfl) rfl (fun vals w hC hD => ⟨hD 8 rfl, rfl⟩)
    · refine showA_not 11 (by intro _ _ _; kernel_rfl) (j := 8) (want := true) rfl rfl rfl (by intro _ _; kernel_rfl) rfl (fun vals w hC hD => ⟨hD 8 rfl, rfl⟩)
    · refine showA_not 12 (by intro _ _ _; kernel_rfl) (j := 8) (want := true) rfl rfl rfl (by intro _ _; kernel_rfl) rfl (fun vals w hC hD => ⟨hD 8 rfl, rfl⟩)
    · refine showA_not 13 (by intro _ _ _; kernel_rfl) (j := 8) (want := true) rfl rfl rfl (by intro _ _; kernel_rfl) rfl (fun vals w hC hD => ⟨hD 8 rfl, rfl⟩)
    · refine showA_not 14 (by intro _ _ _; kernel_rfl) (j := 8) (want := true) rfl rfl rfl (by intro _ _; kernel_rfl) rfl (fun vals w hC hD => ⟨hD 8 rfl, rfl⟩)
    · refine showA_not 15 (by intro _ _ _; kernel_rfl) (j := 8) (want := true) rfl rfl rfl (by intro _ _; kernel_rfl) rfl (fun vals w hC hD => ⟨hD 8 rfl, rfl⟩)
    · refine showA_not 16 (by intro _ _ _; kernel_rfl) (j := 8) (want := true) rfl rfl rfl (by intro _ _; kernel_rfl) rfl (fun vals w hC hD => ⟨hD 8 rfl, rfl⟩)
    · refine showA_not 17 (by intro _ _ _; kernel_rfl) (j := 8) (want := true) rfl rfl rfl (by intro _ _; kernel_rfl) rfl (fun vals w hC hD => ⟨hD 8 rfl, rfl⟩)
    · refine showA_op 18 (by intro _ _ _; kernel_rfl) rfl rfl (fun c vals w hC hD => ?_)
      have h8 : vals 8 = (Value.bool false) := hD 8 rfl
      have h17 : vals 17 = undef := hD 17 rfl
      clear hD
      refine makes2 (x := .tmp 18) (X := (Value.bool false)) (y := .tmp 27) (Y := undef) ((by kernel_rfl : _ = vals 8).trans h8) ((by kernel_rfl : _ = vals 17).trans h17) (fun ρ rc rf q18 q27 => ?_)
      clear h8 h17
      refine makes_value (v := (Value.bool false)) ?_ ⟨Adds.refl _, rfl⟩
      go_simp
      all_goals first | done | rfl | (rw [if_pos (by omega)]; refine congrArg (fun x => Result.ok (Next.value (Value.pointer (some ⟨_, x, none⟩))) _) ?_; omega) | (rw [wrapP_i64]; omega) | go_num | (simp; done) | (simp; omega) | (congr 1; first | rfl | (rw [wrapP_i64]; omega) | (congr 1; first | rfl | (simp; done) | (simp; omega) | (congr 2; omega) | go_num))
    intro vals w' hC hΦ hne
    have h18 : vals 18 = (Value.bool false) := hΦ 18 (by decide)
    clear hΦ hne
    simp only [List.getD_eq_getElem?_getD, List.getElem?_cons_zero, List.getElem?_cons_succ, Option.getD_some, List.drop_succ_cons, List.drop_zero]
    simp only [h18]
    clear h18
    try simp only [tuple_undef]
    replace hM := hM.adds hC
    clear hC
    go_wp2_with (first | go_skip | ((first | (with_reducible refine gL_load ?_) | ((with_reducible refine gG_load ?_ ?_); (exact wanted_of rfl rfl rfl rfl rfl))); refine ⟨_, _, rfl, (by (first | (assumption) | (exact hM.loads_B8 (by (repeat (first | exact .head _ | apply List.Mem.tail)); done) (on_of rfl) (by first | omega | (simp only [Len] at *; omega) | (simp; omega))) | (exact hM.loads_all (by (repeat (first | exact .head _ | apply List.Mem.tail)); done) (ag_of rfl) (by first | assumption | exact Len.map (by assumption) _ | rfl | exact Len.map (by rfl) _ | exact Len.of (by simp; done) | exact h32 | exact Len.map (h32) _)) | (exact hM.loads_one (by (repeat (first | exact .head _ | apply List.Mem.tail)); done) (on_of rfl) rfl) | (exact hM.loads_W32 (by (repeat (first | exact .head _ | apply List.Mem.tail)); done) (on_of rfl) (by first | omega | (simp only [Len] at *; omega) | (simp; omega))) | (exact loads_cell (by assumption) (on_of rfl)))), ?_⟩) | ((with_reducible refine gL_store hM ?_); refine ⟨_, _, _, rfl, rfl, (by (first | (exact hM.stores_B8 (by first | exact (rfl : B8 _ = B8 _) | exact lit8 _ (by decide)) (by (repeat (first | exact .here _ _ _ | apply Has.there)); done) (on_of rfl) (by first | omega | (simp only [Len] at *; omega) | (simp; omega))) | (exact hM.stores_all (by (repeat (first | exact .here _ _ _ | apply Has.there)); done) (ag_of rfl) (by first | assumption | exact Len.map (by assumption) _ | rfl | exact Len.map (by rfl) _ | exact Len.of (by simp; done) | exact h32 | exact Len.map (h32) _) (by first | assumption | exact Len.map (by assumption) _ | rfl | exact Len.map (by rfl) _ | exact Len.of (by simp; done) | exact h32 | exact Len.map (h32) _) (by first | exact B8_one | exact W32_one | exact one_of_all rfl)) | (exact hM.stores_W32 rfl (by (repeat (first | exact .here _ _ _ | apply Has.there)); done) (on_of rfl) (by first | omega | (simp only [Len] at *; omega) | (simp; omega))) | (exact hM.stores_one (by (repeat (first | exact .here _ _ _ | apply Has.there)); done) (on_of rfl) (by first | omega | (simp only [Len] at *; omega) | (simp; omega)) rfl rfl))), ?_⟩; intro _ hM2; clear hM; have hM := hM2; clear hM2) | ((with_reducible refine gL_alloc hM ?_); refine ⟨_, _, (zr_of rfl), ?_⟩; intro _ _ hM2; clear hM; have hM := hM2; clear hM2) | ((with_reducible refine gL_box hM ?_); refine ⟨_, _, _, rfl, rfl, (by first | assumption | exact Len.map (by assumption) _ | rfl | exact Len.map (by rfl) _ | exact Len.of (by simp; done) | exact h32 | exact Len.map (h32) _), ?_⟩; intro _ _ hM2; clear hM; have hM := hM2; clear hM2) | ((with_reducible refine gL_build0 ?_); refine ⟨_, _, _, _, _, _, (zr_of rfl), (ua_of rfl), (ag_of rfl), (el_of rfl), ?_⟩) | ((with_reducible refine gL_buildBytes hM ?_); refine ⟨_, _, (us_of rfl), (el_of rfl), (by decide), (by decide), rfl, (by (repeat (first | exact EvB.nil | apply EvB.cons rfl (by first | exact (rfl : B8 _ = B8 _) | exact lit8 _ (by decide)))); done), ?_⟩; intro _ _ hM2; clear hM; have hM := hM2; clear hM2) | ((with_reducible refine gL_append_B hM ?_); refine ⟨_, _, _, _, _, _, _, _, _, _, rfl, rfl, (by first | exact (rfl : Value.slice (some ⟨_, 0, none⟩) _ _ = sl (some _) _ _) | exact (rfl : Value.slice none _ _ = sl none _ _) | rfl), (us_of rfl), (el_of rfl), (by first | exact hM.src (by (repeat (first | exact .head _ | apply List.Mem.tail)); done) | exact (hM.bytes0 (by assumption)).src), (fun _ _ => by (repeat (first | exact .here _ _ _ | apply Swap.there)); done), (by first | assumption | exact Len.map (by assumption) _ | rfl | exact Len.map (by rfl) _ | exact Len.of (by simp; done) | exact h32 | exact Len.map (h32) _), (by first | assumption | exact Len.map (by assumption) _ | rfl | exact Len.map (by rfl) _ | exact Len.of (by simp; done) | exact h32 | exact Len.map (h32) _), (by first | assumption | (simp [maxLen]; done) | omega | (simp [maxLen]; omega)), (by first | omega | (simp only [Len] at *; omega) | (simp; omega)), ?_⟩; intro _ _ _ hM2 _ _; clear hM; have hM := hM2; clear hM2) | ((first | (with_reducible refine gL_field ?_) | ((with_reducible refine gG_field ?_ ?_); (exact wanted_of rfl rfl rfl rfl rfl))); refine ⟨_, _, rfl, (by (first | (exact field_one (fb_of rfl) rfl) | (exact field_agg (fa_of rfl) rfl))), ?_⟩) | (go_at_call 20; (with_reducible refine (law02_fixed _).mono ?_); rintro _ _ ⟨rfl, B1⟩; replace hM := hM.adds B1; clear B1))
    go_ret
    exact ⟨rfl, hM.done⟩
  · skip
    try simp only [Act.put, List.setIfInBounds_toArray, List.set_cons_succ, List.set_cons_zero]
    refine wp_region_tail 19 (by decide) (fun c vals => ⟨#[(Value.slice ao l.length cap : Value), (Value.int .i64 n : Value), c 2, c 3, c 4, c 5, c 6, c 7, c 8, c 9, vals 0, vals 1, vals 2, vals 3, vals 4, vals 5, vals 6, vals 7, vals 8, vals 9, vals 10, vals 11, vals 12, vals 13, vals 14, vals 15, vals 16, vals 17, vals 18, c 29], []⟩) (fun t => [undef, undef, _, _, _, _, _, _, _, _, undef, undef, undef, undef, undef, undef, undef, undef, undef, undef, undef, undef, undef, undef, undef, undef, undef, undef, undef, _].getD t undef) (fun i => [_, _, _, _, _, _, _, _, _, _, _, _, _, _, _, _, _, _, _].getD i undef) (by kernel_rfl)
      [[], [0], [0, 1], [0, 1, 2], [0, 1, 2], [0, 1, 2, 4], [0, 1, 2, 3, 4, 5], [0, 1, 2, 3, 4, 5, 6], [0, 1, 2, 3, 4, 5, 6, 7], [0, 1, 2, 3, 4, 5, 6, 7, 8], [0, 1, 2, 3, 4, 5, 6, 7, 8], [0, 1, 2, 3, 4, 5, 6, 7, 8, 9, 10], [0, 1, 2, 3, 4, 5, 6, 7, 8, 9, 10, 11], [0, 1, 2, 3, 4, 5, 6, 7, 8], [0, 1, 2, 3, 4, 5, 6, 7, 8], [0, 1, 2, 3, 4, 5, 6, 7, 8, 13, 14], [0, 1, 2, 3, 4, 5, 6, 7, 8, 9, 10, 11, 12, 13, 14, 15], [0, 1, 2, 3, 4, 5, 6, 7, 8, 9, 10, 11, 12, 13, 14, 15, 16], [0, 1, 2, 3, 4, 5, 6, 7, 8, 9, 10, 11, 12, 13, 14, 15, 16, 17]] (by kernel_rfl) (by kernel_rfl) (fun _ => True) trivial
      [fun x _ => x = (Value.int .i64 n : Value),
       fun x _ => x = (Value.bool true : Value),
       fun x _ => x = (Value.bool true : Value),
       fun x _ => x = (Value.int .i64 n : Value),
       fun x _ => x = (Value.slice ao l.length cap : Value),
       fun x _ => x = (Value.int .i64 (l.length : Int) : Value),
       fun x _ => x = (Value.bool false : Value),
       fun x _ => x = (Value.bool false : Value),
       fun x _ => x = (Value.bool false : Value),
       fun x _ => x = (undef : Value),
       fun x _ => x = (undef : Value),
       fun x _ => x = (undef : Value),
       fun x _ => x = (undef : Value),
       fun x _ => x = (undef : Value),
       fun x _ => x = (undef : Value),
       fun x _ => x = (undef : Value),
       fun x _ => x = (undef : Value),
       fun x _ => x = (undef : Value),
       fun x _ => x = ((Value.bool false) : Value)]
      ⟨fun _ _ _ h _ => h, fun _ _ _ h _ => h, fun _ _ _ h _ => h, fun _ _ _ h _ => h, fun _ _ _ h _ => h, fun _ _ _ h _ => h, fun _ _ _ h _ => h, fun _ _ _ h _ => h, fun _ _ _ h _ => h, fun _ _ _ h _ => h, fun _ _ _ h _ => h, fun _ _ _ h _ => h, fun _ _ _ h _ => h, fun _ _ _ h _ => h, fun _ _ _ h _ => h, fun _ _ _ h _ => h, fun _ _ _ h _ => h, fun _ _ _ h _ => h, fun _ _ _ h _ => h, trivial⟩ []
      ⟨?_, ?_, ?_, ?_, ?_, ?_, ?_, ?_, ?_, ?_, ?_, ?_, ?_, ?_, ?_, ?_, ?_, ?_, ?_, trivial⟩ ?_
    · refine showA_op 0 (by intro _ _ _; kernel_rfl) rfl rfl (fun c vals w hC hD => ?_)
      clear hD
      refine makes1 (x := .tmp 1) (X := Value.int .i64 n) (by kernel_rfl : _ = (Value.int .i64 n : Value)) (fun ρ rc rf q1 => ?_)
      exact makes_move (.inl rfl) q1 ⟨Adds.refl _, rfl⟩
    · refine showA_op 1 (by intro _ _ _; kernel_rfl) rfl rfl (fun c vals w hC hD => ?_)
      have h0 : vals 0 = .int .i64 n := hD 0 rfl
      clear hD
      refine makes1 (x := .tmp 10) (X := Value.int .i64 n) ((by kernel_rfl : _ = vals 0).trans h0) (fun ρ rc rf q10 => ?_)
      clear h0
      refine makes_value (v := Value.bool true) ?_ ⟨Adds.refl _, rfl⟩
      go_simp
      all_goals first | done | rfl | (rw [if_pos (by omega)]; refine congrArg (fun x => Result.ok (Next.value (Value.pointer (some ⟨_, x, none⟩))) _) ?_; omega) | (rw [wrapP_i64]; omega) | go_num | (simp; done) | (simp; omega) | (congr 1; first | rfl | (rw [wrapP_i64]; omega) | (congr 1; first | rfl | (simp; done) | (simp; omega) | (congr 2; omega) | go_num))
    · refine showA_op 2 (by intro _ _ _; kernel_rfl) rfl rfl (fun c vals w hC hD => ?_)
      have h1 : vals 1 = .bool true := hD 1 rfl
      clear hD
      refine makes1 (x := .tmp 11) (X := Value.bool true) ((by kernel_rfl : _ = vals 1).trans h1) (fun ρ rc rf q11 => ?_)
      clear h1
      exact makes_move (.inl rfl) q11 ⟨Adds.refl _, rfl⟩
    · refine showA_run 3 (by intro _ _ _; kernel_rfl) (j := 2) (want := true) rfl rfl rfl (by intro _ _; kernel_rfl) rfl (fun c vals w hC hD => ⟨hD 2 rfl, ?_⟩)
      clear hD
      refine makes1 (x := .tmp 1) (X := Value.int .i64 n) (by kernel_rfl : _ = (Value.int .i64 n : Value)) (fun ρ rc rf q1 => ?_)
      exact makes_move (.inl rfl) q1 ⟨Adds.refl _, rfl⟩
    · refine showA_run 4 (by intro _ _ _; kernel_rfl) (j := 2) (want := true) rfl rfl rfl (by intro _ _; kernel_rfl) rfl (fun c vals w hC hD => ⟨hD 2 rfl, ?_⟩)
      clear hD
      refine makes1 (x := .tmp 0) (X := Value.slice ao l.length cap) (by kernel_rfl : _ = (Value.slice ao l.length cap : Value)) (fun ρ rc rf q0 => ?_)
      exact makes_move (.inl rfl) q0 ⟨Adds.refl _, rfl⟩
    · refine showA_run 5 (by intro _ _ _; kernel_rfl) (j := 2) (want := true) rfl rfl rfl (by intro _ _; kernel_rfl) rfl (fun c vals w hC hD => ⟨hD 2 rfl, ?_⟩)
      have h4 : vals 4 = .slice ao l.length cap := hD 4 rfl
      clear hD
      refine makes1 (x := .tmp 14) (X := Value.slice ao l.length cap) ((by kernel_rfl : _ = vals 4).trans h4) (fun ρ rc rf q14 => ?_)
      clear h4
      refine makes_value (v := Value.int .i64 (l.length : Int)) ?_ ⟨Adds.refl _, rfl⟩
      go_simp
      all_goals first | done | rfl | (rw [if_pos (by omega)]; refine congrArg (fun x => Result.ok (Next.value (Value.pointer (some ⟨_, x, none⟩))) _) ?_; omega) | (rw [wrapP_i64]; omega) | go_num | (simp; done) | (simp; omega) | (congr 1; first | rfl | (rw [wrapP_i64]; omega) | (congr 1; first | rfl | (simp; done) | (simp; omega) | (congr 2; omega) | go_num))
    · refine showA_run 6 (by intro _ _ _; kernel_rfl) (j := 2) (want := true) rfl rfl rfl (by intro _ _; kernel_rfl) rfl (fun c vals w hC hD => ⟨hD 2 rfl, ?_⟩)
      have h3 : vals 3 = .int .i64 n := hD 3 rfl
      have h5 : vals 5 = .int .i64 (l.length : Int) := hD 5 rfl
      clear hD
      refine makes2 (x := .tmp 13) (X := Value.int .i64 n) (y := .tmp 15) (Y := Value.int .i64 (l.length : Int)) ((by kernel_rfl : _ = vals 3).trans h3) ((by kernel_rfl : _ = vals 5).trans h5) (fun ρ rc rf q13 q15 => ?_)
      clear h3 h5
      refine makes_value (v := Value.bool false) ?_ ⟨Adds.refl _, rfl⟩
      go_simp
      all_goals first | done | rfl | (rw [if_pos (by omega)]; refine congrArg (fun x => Result.ok (Next.value (Value.pointer (some ⟨_, x, none⟩))) _) ?_; omega) | (rw [wrapP_i64]; omega) | go_num | (simp; done) | (simp; omega) | (congr 1; first | rfl | (rw [wrapP_i64]; omega) | (congr 1; first | rfl | (simp; done) | (simp; omega) | (congr 2; omega) | go_num))
    · refine showA_op 7 (by intro _ _ _; kernel_rfl) rfl rfl (fun c vals w hC hD => ?_)
      have h2 : vals 2 = .bool true := hD 2 rfl
      have h6 : vals 6 = .bool false := hD 6 rfl
      clear hD
      refine makes2 (x := .tmp 12) (X := Value.bool true) (y := .tmp 16) (Y := Value.bool false) ((by kernel_rfl : _ = vals 2).trans h2) ((by kernel_rfl : _ = vals 6).trans h6) (fun ρ rc rf q12 q16 => ?_)
      clear h2 h6
      refine makes_value (v := Value.bool false) ?_ ⟨Adds.refl _, rfl⟩
      go_simp
      all_goals first | done | rfl | (rw [if_pos (by omega)]; refine congrArg (fun x => Result.ok (Next.value (Value.pointer (some ⟨_, x, none⟩))) _) ?_; omega) | (rw [wrapP_i64]; omega) | go_num | (simp; done) | (simp; omega) | (congr 1; first | rfl | (rw [wrapP_i64]; omega) | (congr 1; first | rfl | (simp; done) | (simp; omega) | (congr 2; omega) | go_num))
    · refine showA_op 8 (by intro _ _ _; kernel_rfl) rfl rfl (fun c vals w hC hD => ?_)
      have h7 : vals 7 = .bool false := hD 7 rfl
      clear hD
      refine makes1 (x := .tmp 17) (X := Value.bool false) ((by kernel_rfl : _ = vals 7).trans h7) (fun ρ rc rf q17 => ?_)
      clear h7
      exact makes_move (.inl rfl) q17 ⟨Adds.refl _, rfl⟩
    · refine showA_not 9 (by intro _ _ _; kernel_rfl) (j := 8) (want := true) rfl rfl rfl (by intro _ _; kernel_rfl) rfl (fun vals w hC hD => ⟨hD 8 rfl, rfl⟩)
    · refine showA_not 10 (by intro _ _ _; kernel_rfl) (j := 8) (want := true) rfl rfl rfl (by intro _ _; kernel_rfl) rfl (fun vals w hC hD => ⟨hD 8 rfl, rfl⟩)
    · refine showA_not 11 (by intro _ _ _; kernel_rfl) (j := 8) (want := true) rfl rfl rfl (by intro _ _; kernel_rfl) rfl (fun vals w hC hD => ⟨hD 8 rfl, rfl⟩)
    · refine showA_not 12 (by intro _ _ _; kernel_rfl) (j := 8) (want := true) rfl rfl rfl (by intro _ _; kernel_rfl) rfl (fun vals w hC hD => ⟨hD 8 rfl, rfl⟩)
    · refine showA_not 13 (by intro _ _ _; kernel_rfl) (j := 8) (want := true) rfl rfl rfl (by intro _ _; kernel_rfl) rfl (fun vals w hC hD => ⟨hD 8 rfl, rfl⟩)
    · refine showA_not 14 (by intro _ _ _; kernel_rfl) (j := 8) (want := true) rfl rfl rfl (by intro _ _; kernel_rfl) rfl (fun vals w hC hD => ⟨hD 8 rfl, rfl⟩)
    · refine showA_not 15 (by intro _ _ _; kernel_rfl) (j := 8) (want := true) rfl rfl rfl (by intro _ _; kernel_rfl) rfl (fun vals w hC hD => ⟨hD 8 rfl, rfl⟩)
    · refine showA_not 16 (by intro _ _ _; kernel_rfl) (j := 8) (want := true) rfl rfl rfl (by intro _ _; kernel_rfl) rfl (fun vals w hC hD => ⟨hD 8 rfl, rfl⟩)
    · refine showA_not 17 (by intro _ _ _; kernel_rfl) (j := 8) (want := true) rfl rfl rfl (by intro _ _; kernel_rfl) rfl (fun vals w hC hD => ⟨hD 8 rfl, rfl⟩)
    · refine showA_op 18 (by intro _ _ _; kernel_rfl) rfl rfl (fun c vals w hC hD => ?_)
      have h8 : vals 8 = .bool false := hD 8 rfl
      have h17 : vals 17 = undef := hD 17 rfl
      clear hD
      refine makes2 (x := .tmp 18) (X := Value.bool false) (y := .tmp 27) (Y := undef) ((by kernel_rfl : _ = vals 8).trans h8) ((by kernel_rfl : _ = vals 17).trans h17) (fun ρ rc rf q18 q27 => ?_)
      clear h8 h17
      refine makes_value (v := (Value.bool false)) ?_ ⟨Adds.refl _, rfl⟩
      go_simp
      all_goals first | done | rfl | (rw [if_pos (by omega)]; refine congrArg (fun x => Result.ok (Next.value (Value.pointer (some ⟨_, x, none⟩))) _) ?_; omega) | (rw [wrapP_i64]; omega) | go_num | (simp; done) | (simp; omega) | (congr 1; first | rfl | (rw [wrapP_i64]; omega) | (congr 1; first | rfl | (simp; done) | (simp; omega) | (congr 2; omega) | go_num))
    intro vals w' hC hΦ hne
    have h18 : vals 18 = (Value.bool false) := hΦ 18 (by decide)
    clear hΦ hne
    simp only [List.getD_eq_getElem?_getD, List.getElem?_cons_zero, List.getElem?_cons_succ, Option.getD_some, List.drop_succ_cons, List.drop_zero]
    simp only [h18]
    clear h18
    try simp only [tuple_undef]
    replace hM := hM.adds hC
    clear hC
    go_wp2_with (first | go_skip | ((first | (with_reducible refine gL_load ?_) | ((with_reducible refine gG_load ?_ ?_); (exact wanted_of rfl rfl rfl rfl rfl))); refine ⟨_, _, rfl, (by (first | (assumption) | (exact hM.loads_B8 (by (repeat (first | exact .head _ | apply List.Mem.tail)); done) (on_of rfl) (by first | omega | (simp only [Len] at *; omega) | (simp; omega))) | (exact hM.loads_all (by (repeat (first | exact .head _ | apply List.Mem.tail)); done) (ag_of rfl) (by first | assumption | exact Len.map (by assumption) _ | rfl | exact Len.map (by rfl) _ | exact Len.of (by simp; done) | exact h32 | exact Len.map (h32) _)) | (exact hM.loads_one (by (repeat (first | exact .head _ | apply List.Mem.tail)); done) (on_of rfl) rfl) | (exact hM.loads_W32 (by (repeat (first | exact .head _ | apply List.Mem.tail)); done) (on_of rfl) (by first | omega | (simp only [Len] at *; omega) | (simp; omega))) | (exact loads_cell (by assumption) (on_of rfl)))), ?_⟩) | ((with_reducible refine gL_store hM ?_); refine ⟨_, _, _, rfl, rfl, (by (first | (exact hM.stores_B8 (by first | exact (rfl : B8 _ = B8 _) | exact lit8 _ (by decide)) (by (repeat (first | exact .here _ _ _ | apply Has.there)); done) (on_of rfl) (by first | omega | (simp only [Len] at *; omega) | (simp; omega))) | (exact hM.stores_all (by (repeat (first | exact .here _ _ _ | apply Has.there)); done) (ag_of rfl) (by first | assumption | exact Len.map (by assumption) _ | rfl | exact Len.map (by rfl) _ | exact Len.of (by simp; done) | exact h32 | exact Len.map (h32) _) (by first | assumption | exact Len.map (by assumption) _ | rfl | exact Len.map (by rfl) _ | exact Len.of (by simp; done) | exact h32 | exact Len.map (h32) _) (by first | exact B8_one | exact W32_one | exact one_of_all rfl)) | (exact hM.stores_W32 rfl (by (repeat (first | exact .here _ _ _ | apply Has.there)); done) (on_of rfl) (by first | omega | (simp only [Len] at *; omega) | (simp; omega))) | (exact hM.stores_one (by (repeat (first | exact .here _ _ _ | apply Has.there)); done) (on_of rfl) (by first | omega | (simp only [Len] at *; omega) | (simp; omega)) rfl rfl))), ?_⟩; intro _ hM2; clear hM; have hM := hM2; clear hM2) | ((with_reducible refine gL_alloc hM ?_); refine ⟨_, _, (zr_of rfl), ?_⟩; intro _ _ hM2; clear hM; have hM := hM2; clear hM2) | ((with_reducible refine gL_box hM ?_); refine ⟨_, _, _, rfl, rfl, (by first | assumption | exact Len.map (by assumption) _ | rfl | exact Len.map (by rfl) _ | exact Len.of (by simp; done) | exact h32 | exact Len.map (h32) _), ?_⟩; intro _ _ hM2; clear hM; have hM := hM2; clear hM2) | ((with_reducible refine gL_build0 ?_); refine ⟨_, _, _, _, _, _, (zr_of rfl), (ua_of rfl), (ag_of rfl), (el_of rfl), ?_⟩) | ((with_reducible refine gL_buildBytes hM ?_); refine ⟨_, _, (us_of rfl), (el_of rfl), (by decide), (by decide), rfl, (by (repeat (first | exact EvB.nil | apply EvB.cons rfl (by first | exact (rfl : B8 _ = B8 _) | exact lit8 _ (by decide)))); done), ?_⟩; intro _ _ hM2; clear hM; have hM := hM2; clear hM2) | ((with_reducible refine gL_append_B hM ?_); refine ⟨_, _, _, _, _, _, _, _, _, _, rfl, rfl, (by first | exact (rfl : Value.slice (some ⟨_, 0, none⟩) _ _ = sl (some _) _ _) | exact (rfl : Value.slice none _ _ = sl none _ _) | rfl), (us_of rfl), (el_of rfl), (by first | exact hM.src (by (repeat (first | exact .head _ | apply List.Mem.tail)); done) | exact (hM.bytes0 (by assumption)).src), (fun _ _ => by (repeat (first | exact .here _ _ _ | apply Swap.there)); done), (by first | assumption | exact Len.map (by assumption) _ | rfl | exact Len.map (by rfl) _ | exact Len.of (by simp; done) | exact h32 | exact Len.map (h32) _), (by first | assumption | exact Len.map (by assumption) _ | rfl | exact Len.map (by rfl) _ | exact Len.of (by simp; done) | exact h32 | exact Len.map (h32) _), (by first | assumption | (simp [maxLen]; done) | omega | (simp [maxLen]; omega)), (by first | omega | (simp only [Len] at *; omega) | (simp; omega)), ?_⟩; intro _ _ _ hM2 _ _; clear hM; have hM := hM2; clear hM2) | ((first | (with_reducible refine gL_field ?_) | ((with_reducible refine gG_field ?_ ?_); (exact wanted_of rfl rfl rfl rfl rfl))); refine ⟨_, _, rfl, (by (first | (exact field_one (fb_of rfl) rfl) | (exact field_agg (fa_of rfl) rfl))), ?_⟩) | (go_at_call 20; (with_reducible refine (law02_fixed _).mono ?_); rintro _ _ ⟨rfl, B1⟩; replace hM := hM.adds B1; clear B1))
    go_ret
    exact ⟨rfl, hM.done⟩
  · have hb := hM.bytes0 hv
    obtain ⟨hSl, hBl⟩ := bytes_upto (P := Try.prog) hb (t := 22) (e := 5) (us_of rfl) (elOne rfl) hk
    have hkl : (l.take k).length ≤ l.length := by rw [List.length_take]; omega
    try simp only [Act.put, List.setIfInBounds_toArray, List.set_cons_succ, List.set_cons_zero]
    refine wp_region_tail 19 (by decide) (fun c vals => ⟨#[(Value.slice ao l.length cap : Value), (Value.int .i64 (k : Int) : Value), c 2, c 3, c 4, c 5, c 6, c 7, c 8, c 9, vals 0, vals 1, vals 2, vals 3, vals 4, vals 5, vals 6, vals 7, vals 8, vals 9, vals 10, vals 11, vals 12, vals 13, vals 14, vals 15, vals 16, vals 17, vals 18, c 29], []⟩) (fun t => [undef, undef, _, _, _, _, _, _, _, _, undef, undef, undef, undef, undef, undef, undef, undef, undef, undef, undef, undef, undef, undef, undef, undef, undef, undef, undef, _].getD t undef) (fun i => [_, _, _, _, _, _, _, _, _, _, _, _, _, _, _, _, _, _, _].getD i undef) (by kernel_rfl)
      [[], [0], [0, 1], [0, 1, 2], [0, 1, 2], [0, 1, 2, 4], [0, 1, 2, 3, 4, 5], [0, 1, 2, 3, 4, 5, 6], [0, 1, 2, 3, 4, 5, 6, 7], [0, 1, 2, 3, 4, 5, 6, 7, 8], [0, 1, 2, 3, 4, 5, 6, 7, 8], [0, 1, 2, 3, 4, 5, 6, 7, 8, 9, 10], [0, 1, 2, 3, 4, 5, 6, 7, 8, 9, 10, 11], [0, 1, 2, 3, 4, 5, 6, 7, 8], [0, 1, 2, 3, 4, 5, 6, 7, 8], [0, 1, 2, 3, 4, 5, 6, 7, 8, 13, 14], [0, 1, 2, 3, 4, 5, 6, 7, 8, 9, 10, 11, 12, 13, 14, 15], [0, 1, 2, 3, 4, 5, 6, 7, 8, 9, 10, 11, 12, 13, 14, 15, 16], [0, 1, 2, 3, 4, 5, 6, 7, 8, 9, 10, 11, 12, 13, 14, 15, 16, 17]] (by kernel_rfl) (by kernel_rfl) (fun _ => True) trivial
      [fun x _ => x = (Value.int .i64 (k : Int) : Value),
       fun x _ => x = (Value.bool true : Value),
       fun x _ => x = (Value.bool true : Value),
       fun x _ => x = (Value.int .i64 (k : Int) : Value),
       fun x _ => x = (Value.slice ao l.length cap : Value),
       fun x _ => x = (Value.int .i64 (l.length : Int) : Value),
       fun x _ => x = (Value.bool true : Value),
       fun x _ => x = (Value.bool true : Value),
       fun x _ => x = (Value.bool true : Value),
       fun x _ => x = (Value.slice ao l.length cap : Value),
       fun x _ => x = (Value.int .i64 (k : Int) : Value),
       fun x _ => x = (Value.slice ao k cap : Value),
       fun x _ => x = (Value.agg ((H (l.take k)).map B8).toArray : Value),
       fun x _ => x = (Value.slice ao l.length cap : Value),
       fun x _ => x = (Value.int .i64 (k : Int) : Value),
       fun x _ => x = (Value.slice ao k cap : Value),
       fun x _ => x = (Value.agg ((H (l.take k)).map B8).toArray : Value),
       fun x _ => x = (Value.bool false : Value),
       fun x _ => x = (Value.bool false : Value)]
      ⟨fun _ _ _ h _ => h, fun _ _ _ h _ => h, fun _ _ _ h _ => h, fun _ _ _ h _ => h, fun _ _ _ h _ => h, fun _ _ _ h _ => h, fun _ _ _ h _ => h, fun _ _ _ h _ => h, fun _ _ _ h _ => h, fun _ _ _ h _ => h, fun _ _ _ h _ => h, fun _ _ _ h _ => h, fun _ _ _ h _ => h, fun _ _ _ h _ => h, fun _ _ _ h _ => h, fun _ _ _ h _ => h, fun _ _ _ h _ => h, fun _ _ _ h _ => h, fun _ _ _ h _ => h, trivial⟩ []
      ⟨?_, ?_, ?_, ?_, ?_, ?_, ?_, ?_, ?_, ?_, ?_, ?_, ?_, ?_, ?_, ?_, ?_, ?_, ?_, trivial⟩ ?_
    · refine showA_op 0 (by intro _ _ _; kernel_rfl) rfl rfl (fun c vals w hC hD => ?_)
      clear hD
      refine makes1 (x := .tmp 1) (X := Value.int .i64 (k : Int)) (by kernel_rfl : _ = (Value.int .i64 (k : Int) : Value)) (fun ρ rc rf q1 => ?_)
      exact makes_move (.inl rfl) q1 ⟨Adds.refl _, rfl⟩
    · refine showA_op 1 (by intro _ _ _; kernel_rfl) rfl rfl (fun c vals w hC hD => ?_)
      have h0 : vals 0 = .int .i64 (k : Int) := hD 0 rfl
      clear hD
      refine makes1 (x := .tmp 10) (X := Value.int .i64 (k : Int)) ((by kernel_rfl : _ = vals 0).trans h0) (fun ρ rc rf q10 => ?_)
      clear h0
      refine makes_value (v := Value.bool true) ?_ ⟨Adds.refl _, rfl⟩
      go_simp
      all_goals first | done | rfl | (rw [if_pos (by omega)]; refine congrArg (fun x => Result.ok (Next.value (Value.pointer (some ⟨_, x, none⟩))) _) ?_; omega) | (rw [wrapP_i64]; omega) | go_num | (simp; done) | (simp; omega) | (congr 1; first | rfl | (rw [wrapP_i64]; omega) | (congr 1; first | rfl | (simp; done) | (simp; omega) | (congr 2; omega) | go_num))
    · refine showA_op 2 (by intro _ _ _; kernel_rfl) rfl rfl (fun c vals w hC hD => ?_)
      have h1 : vals 1 = .bool true := hD 1 rfl
      clear hD
      refine makes1 (x := .tmp 11) (X := Value.bool true) ((by kernel_rfl : _ = vals 1).trans h1) (fun ρ rc rf q11 => ?_)
      clear h1
      exact makes_move (.inl rfl) q11 ⟨Adds.refl _, rfl⟩
    · refine showA_run 3 (by intro _ _ _; kernel_rfl) (j := 2) (want := true) rfl rfl rfl (by intro _ _; kernel_rfl) rfl (fun c vals w hC hD => ⟨hD 2 rfl, ?_⟩)
      clear hD
      refine makes1 (x := .tmp 1) (X := Value.int .i64 (k : Int)) (by kernel_rfl : _ = (Value.int .i64 (k : Int) : Value)) (fun ρ rc rf q1 => ?_)
      exact makes_move (.inl rfl) q1 ⟨Adds.refl _, rfl⟩
    · refine showA_run 4 (by intro _ _ _; kernel_rfl) (j := 2) (want := true) rfl rfl rfl (by intro _ _; kernel_rfl) rfl (fun c vals w hC hD => ⟨hD 2 rfl, ?_⟩)
      clear hD
      refine makes1 (x := .tmp 0) (X := Value.slice ao l.length cap) (by kernel_rfl : _ = (Value.slice ao l.length cap : Value)) (fun ρ rc rf q0 => ?_)
      exact makes_move (.inl rfl) q0 ⟨Adds.refl _, rfl⟩
    · refine showA_run 5 (by intro _ _ _; kernel_rfl) (j := 2) (want := true) rfl rfl rfl (by intro _ _; kernel_rfl) rfl (fun c vals w hC hD => ⟨hD 2 rfl, ?_⟩)
      have h4 : vals 4 = .slice ao l.length cap := hD 4 rfl
      clear hD
      refine makes1 (x := .tmp 14) (X := Value.slice ao l.length cap) ((by kernel_rfl : _ = vals 4).trans h4) (fun ρ rc rf q14 => ?_)
      clear h4
      refine makes_value (v := Value.int .i64 (l.length : Int)) ?_ ⟨Adds.refl _, rfl⟩
      go_simp
      all_goals first | done | rfl | (rw [if_pos (by omega)]; refine congrArg (fun x => Result.ok (Next.value (Value.pointer (some ⟨_, x, none⟩))) _) ?_; omega) | (rw [wrapP_i64]; omega) | go_num | (simp; done) | (simp; omega) | (congr 1; first | rfl | (rw [wrapP_i64]; omega) | (congr 1; first | rfl | (simp; done) | (simp; omega) | (congr 2; omega) | go_num))
    · refine showA_run 6 (by intro _ _ _; kernel_rfl) (j := 2) (want := true) rfl rfl rfl (by intro _ _; kernel_rfl) rfl (fun c vals w hC hD => ⟨hD 2 rfl, ?_⟩)
      have h3 : vals 3 = .int .i64 (k : Int) := hD 3 rfl
      have h5 : vals 5 = .int .i64 (l.length : Int) := hD 5 rfl
      clear hD
      refine makes2 (x := .tmp 13) (X := Value.int .i64 (k : Int)) (y := .tmp 15) (Y := Value.int .i64 (l.length : Int)) ((by kernel_rfl : _ = vals 3).trans h3) ((by kernel_rfl : _ = vals 5).trans h5) (fun ρ rc rf q13 q15 => ?_)
      clear h3 h5
      refine makes_value (v := Value.bool true) ?_ ⟨Adds.refl _, rfl⟩
      go_simp
      all_goals first | done | rfl | (rw [if_pos (by omega)]; refine congrArg (fun x => Result.ok (Next.value (Value.pointer (some ⟨_, x, none⟩))) _) ?_; omega) | (rw [wrapP_i64]; omega) | go_num | (simp; done) | (simp; omega) | (congr 1; first | rfl | (rw [wrapP_i64]; omega) | (congr 1; first | rfl | (simp; done) | (simp; omega) | (congr 2; omega) | go_num))
    · refine showA_op 7 (by intro _ _ _; kernel_rfl) rfl rfl (fun c vals w hC hD => ?_)
      have h2 : vals 2 = .bool true := hD 2 rfl
      have h6 : vals 6 = .bool true := hD 6 rfl
      clear hD
      refine makes2 (x := .tmp 12) (X := Value.bool true) (y := .tmp 16) (Y := Value.bool true) ((by kernel_rfl : _ = vals 2).trans h2) ((by kernel_rfl : _ = vals 6).trans h6) (fun ρ rc rf q12 q16 => ?_)
      clear h2 h6
      refine makes_value (v := Value.bool true) ?_ ⟨Adds.refl _, rfl⟩
      go_simp
      all_goals first | done | rfl | (rw [if_pos (by omega)]; refine congrArg (fun x => Result.ok (Next.value (Value.pointer (some ⟨_, x, none⟩))) _) ?_; omega) | (rw [wrapP_i64]; omega) | go_num | (simp; done) | (simp; omega) | (congr 1; first | rfl | (rw [wrapP_i64]; omega) | (congr 1; first | rfl | (simp; done) | (simp; omega) | (congr 2; omega) | go_num))
    · refine showA_op 8 (by intro _ _ _; kernel_rfl) rfl rfl (fun c vals w hC hD => ?_)
      have h7 : vals 7 = .bool true := hD 7 rfl
      clear hD
      refine makes1 (x := .tmp 17) (X := Value.bool true) ((by kernel_rfl : _ = vals 7).trans h7) (fun ρ rc rf q17 => ?_)
      clear h7
      exact makes_move (.inl rfl) q17 ⟨Adds.refl _, rfl⟩
    · refine showA_run 9 (by intro _ _ _; kernel_rfl) (j := 8) (want := true) rfl rfl rfl (by intro _ _; kernel_rfl) rfl (fun c vals w hC hD => ⟨hD 8 rfl, ?_⟩)
      clear hD
      refine makes1 (x := .tmp 0) (X := Value.slice ao l.length cap) (by kernel_rfl : _ = (Value.slice ao l.length cap : Value)) (fun ρ rc rf q0 => ?_)
      exact makes_move (.inl rfl) q0 ⟨Adds.refl _, rfl⟩
    · refine showA_run 10 (by intro _ _ _; kernel_rfl) (j := 8) (want := true) rfl rfl rfl (by intro _ _; kernel_rfl) rfl (fun c vals w hC hD => ⟨hD 8 rfl, ?_⟩)
      clear hD
      refine makes1 (x := .tmp 1) (X := Value.int .i64 (k : Int)) (by kernel_rfl : _ = (Value.int .i64 (k : Int) : Value)) (fun ρ rc rf q1 => ?_)
      exact makes_move (.inl rfl) q1 ⟨Adds.refl _, rfl⟩
    · refine showA_run 11 (by intro _ _ _; kernel_rfl) (j := 8) (want := true) rfl rfl rfl (by intro _ _; kernel_rfl) rfl (fun c vals w hC hD => ⟨hD 8 rfl, ?_⟩)
      have h9 : vals 9 = .slice ao l.length cap := hD 9 rfl
      have h10 : vals 10 = .int .i64 (k : Int) := hD 10 rfl
      clear hD
      refine makes2 (x := .tmp 19) (X := Value.slice ao l.length cap) (y := .tmp 20) (Y := Value.int .i64 (k : Int)) ((by kernel_rfl : _ = vals 9).trans h9) ((by kernel_rfl : _ = vals 10).trans h10) (fun ρ rc rf q19 q20 => ?_)
      clear h9 h10
      exact makes_slice hSl rfl q19 rfl (congrArg some q20) rfl ⟨Adds.refl _, rfl⟩
    · refine showA_run 12 (by intro _ _ _; kernel_rfl) (j := 8) (want := true) rfl rfl rfl (by intro _ _; kernel_rfl) rfl (fun c vals w hC hD => ⟨hD 8 rfl, ?_⟩)
      have h11 : vals 11 = .slice ao k cap := hD 11 rfl
      clear hD
      refine makes1 (x := .tmp 21) (X := Value.slice ao k cap) ((by kernel_rfl : _ = vals 11).trans h11) (fun ρ rc rf q21 => ?_)
      clear h11
      refine makes_call (hof _ (.slice ao k cap) (l.take k) (hBl.adds hC) hkl) ?_ (by rintro e w' ⟨rfl, hb⟩; exact ⟨_, rfl, hb, rfl⟩)
      go_simp
    · refine showA_run 13 (by intro _ _ _; kernel_rfl) (j := 8) (want := true) rfl rfl rfl (by intro _ _; kernel_rfl) rfl (fun c vals w hC hD => ⟨hD 8 rfl, ?_⟩)
      clear hD
      refine makes1 (x := .tmp 0) (X := Value.slice ao l.length cap) (by kernel_rfl : _ = (Value.slice ao l.length cap : Value)) (fun ρ rc rf q0 => ?_)
      exact makes_move (.inl rfl) q0 ⟨Adds.refl _, rfl⟩
    · refine showA_run 14 (by intro _ _ _; kernel_rfl) (j := 8) (want := true) rfl rfl rfl (by intro _ _; kernel_rfl) rfl (fun c vals w hC hD => ⟨hD 8 rfl, ?_⟩)
      clear hD
      refine makes1 (x := .tmp 1) (X := Value.int .i64 (k : Int)) (by kernel_rfl : _ = (Value.int .i64 (k : Int) : Value)) (fun ρ rc rf q1 => ?_)
      exact makes_move (.inl rfl) q1 ⟨Adds.refl _, rfl⟩
    · refine showA_run 15 (by intro _ _ _; kernel_rfl) (j := 8) (want := true) rfl rfl rfl (by intro _ _; kernel_rfl) rfl (fun c vals w hC hD => ⟨hD 8 rfl, ?_⟩)
      have h13 : vals 13 = .slice ao l.length cap := hD 13 rfl
      have h14 : vals 14 = .int .i64 (k : Int) := hD 14 rfl
      clear hD
      refine makes2 (x := .tmp 23) (X := Value.slice ao l.length cap) (y := .tmp 24) (Y := Value.int .i64 (k : Int)) ((by kernel_rfl : _ = vals 13).trans h13) ((by kernel_rfl : _ = vals 14).trans h14) (fun ρ rc rf q23 q24 => ?_)
      clear h13 h14
      exact makes_slice hSl rfl q23 rfl (congrArg some q24) rfl ⟨Adds.refl _, rfl⟩
    · refine showA_run 16 (by intro _ _ _; kernel_rfl) (j := 8) (want := true) rfl rfl rfl (by intro _ _; kernel_rfl) rfl (fun c vals w hC hD => ⟨hD 8 rfl, ?_⟩)
      have h15 : vals 15 = .slice ao k cap := hD 15 rfl
      clear hD
      refine makes1 (x := .tmp 25) (X := Value.slice ao k cap) ((by kernel_rfl : _ = vals 15).trans h15) (fun ρ rc rf q25 => ?_)
      clear h15
      refine makes_call (href _ (.slice ao k cap) (l.take k) (hBl.adds hC) hkl) ?_ (by rintro e w' ⟨rfl, hb⟩; exact ⟨_, rfl, hb, rfl⟩)
      go_simp
    · refine showA_run 17 (by intro _ _ _; kernel_rfl) (j := 8) (want := true) rfl rfl rfl (by intro _ _; kernel_rfl) rfl (fun c vals w hC hD => ⟨hD 8 rfl, ?_⟩)
      have h12 : vals 12 = .agg ((H (l.take k)).map B8).toArray := hD 12 rfl
      have h16 : vals 16 = .agg ((H (l.take k)).map B8).toArray := hD 16 rfl
      clear hD
      refine makes2 (x := .tmp 22) (X := Value.agg ((H (l.take k)).map B8).toArray) (y := .tmp 26) (Y := Value.agg ((H (l.take k)).map B8).toArray) ((by kernel_rfl : _ = vals 12).trans h12) ((by kernel_rfl : _ = vals 16).trans h16) (fun ρ rc rf q22 q26 => ?_)
      clear h12 h16
      exact makes_neq (hash_self _ (hlen _)) rfl q22 q26 ⟨Adds.refl _, rfl⟩
    · refine showA_op 18 (by intro _ _ _; kernel_rfl) rfl rfl (fun c vals w hC hD => ?_)
      have h8 : vals 8 = .bool true := hD 8 rfl
      have h17 : vals 17 = .bool false := hD 17 rfl
      clear hD
      refine makes2 (x := .tmp 18) (X := Value.bool true) (y := .tmp 27) (Y := Value.bool false) ((by kernel_rfl : _ = vals 8).trans h8) ((by kernel_rfl : _ = vals 17).trans h17) (fun ρ rc rf q18 q27 => ?_)
      clear h8 h17
      refine makes_value (v := Value.bool false) ?_ ⟨Adds.refl _, rfl⟩
      go_simp
      all_goals first | done | rfl | (rw [if_pos (by omega)]; refine congrArg (fun x => Result.ok (Next.value (Value.pointer (some ⟨_, x, none⟩))) _) ?_; omega) | (rw [wrapP_i64]; omega) | go_num | (simp; done) | (simp; omega) | (congr 1; first | rfl | (rw [wrapP_i64]; omega) | (congr 1; first | rfl | (simp; done) | (simp; omega) | (congr 2; omega) | go_num))
    intro vals w' hC hΦ hne
    have h18 : vals 18 = .bool false := hΦ 18 (by decide)
    clear hΦ hne
    simp only [List.getD_eq_getElem?_getD, List.getElem?_cons_zero, List.getElem?_cons_succ, Option.getD_some, List.drop_succ_cons, List.drop_zero]
    simp only [h18]
    clear h18
    try simp only [tuple_undef]
    replace hM := hM.adds hC
    clear hC
    go_wp2_with (first | go_skip | ((first | (with_reducible refine gL_load ?_) | ((with_reducible refine gG_load ?_ ?_); (exact wanted_of rfl rfl rfl rfl rfl))); refine ⟨_, _, rfl, (by (first | (assumption) | (exact hM.loads_B8 (by (repeat (first | exact .head _ | apply List.Mem.tail)); done) (on_of rfl) (by first | omega | (simp only [Len] at *; omega) | (simp; omega))) | (exact hM.loads_all (by (repeat (first | exact .head _ | apply List.Mem.tail)); done) (ag_of rfl) (by first | assumption | exact Len.map (by assumption) _ | rfl | exact Len.map (by rfl) _ | exact Len.of (by simp; done) | exact h32 | exact Len.map (h32) _)) | (exact hM.loads_one (by (repeat (first | exact .head _ | apply List.Mem.tail)); done) (on_of rfl) rfl) | (exact hM.loads_W32 (by (repeat (first | exact .head _ | apply List.Mem.tail)); done) (on_of rfl) (by first | omega | (simp only [Len] at *; omega) | (simp; omega))) | (exact loads_cell (by assumption) (on_of rfl)))), ?_⟩) | ((with_reducible refine gL_store hM ?_); refine ⟨_, _, _, rfl, rfl, (by (first | (exact hM.stores_B8 (by first | exact (rfl : B8 _ = B8 _) | exact lit8 _ (by decide)) (by (repeat (first | exact .here _ _ _ | apply Has.there)); done) (on_of rfl) (by first | omega | (simp only [Len] at *; omega) | (simp; omega))) | (exact hM.stores_all (by (repeat (first | exact .here _ _ _ | apply Has.there)); done) (ag_of rfl) (by first | assumption | exact Len.map (by assumption) _ | rfl | exact Len.map (by rfl) _ | exact Len.of (by simp; done) | exact h32 | exact Len.map (h32) _) (by first | assumption | exact Len.map (by assumption) _ | rfl | exact Len.map (by rfl) _ | exact Len.of (by simp; done) | exact h32 | exact Len.map (h32) _) (by first | exact B8_one | exact W32_one | exact one_of_all rfl)) | (exact hM.stores_W32 rfl (by (repeat (first | exact .here _ _ _ | apply Has.there)); done) (on_of rfl) (by first | omega | (simp only [Len] at *; omega) | (simp; omega))) | (exact hM.stores_one (by (repeat (first | exact .here _ _ _ | apply Has.there)); done) (on_of rfl) (by first | omega | (simp only [Len] at *; omega) | (simp; omega)) rfl rfl))), ?_⟩; intro _ hM2; clear hM; have hM := hM2; clear hM2) | ((with_reducible refine gL_alloc hM ?_); refine ⟨_, _, (zr_of rfl), ?_⟩; intro _ _ hM2; clear hM; have hM := hM2; clear hM2) | ((with_reducible refine gL_box hM ?_); refine ⟨_, _, _, rfl, rfl, (by first | assumption | exact Len.map (by assumption) _ | rfl | exact Len.map (by rfl) _ | exact Len.of (by simp; done) | exact h32 | exact Len.map (h32) _), ?_⟩; intro _ _ hM2; clear hM; have hM := hM2; clear hM2) | ((with_reducible refine gL_build0 ?_); refine ⟨_, _, _, _, _, _, (zr_of rfl), (ua_of rfl), (ag_of rfl), (el_of rfl), ?_⟩) | ((with_reducible refine gL_buildBytes hM ?_); refine ⟨_, _, (us_of rfl), (el_of rfl), (by decide), (by decide), rfl, (by (repeat (first | exact EvB.nil | apply EvB.cons rfl (by first | exact (rfl : B8 _ = B8 _) | exact lit8 _ (by decide)))); done), ?_⟩; intro _ _ hM2; clear hM; have hM := hM2; clear hM2) | ((with_reducible refine gL_append_B hM ?_); refine ⟨_, _, _, _, _, _, _, _, _, _, rfl, rfl, (by first | exact (rfl : Value.slice (some ⟨_, 0, none⟩) _ _ = sl (some _) _ _) | exact (rfl : Value.slice none _ _ = sl none _ _) | rfl), (us_of rfl), (el_of rfl), (by first | exact hM.src (by (repeat (first | exact .head _ | apply List.Mem.tail)); done) | exact (hM.bytes0 (by assumption)).src), (fun _ _ => by (repeat (first | exact .here _ _ _ | apply Swap.there)); done), (by first | assumption | exact Len.map (by assumption) _ | rfl | exact Len.map (by rfl) _ | exact Len.of (by simp; done) | exact h32 | exact Len.map (h32) _), (by first | assumption | exact Len.map (by assumption) _ | rfl | exact Len.map (by rfl) _ | exact Len.of (by simp; done) | exact h32 | exact Len.map (h32) _), (by first | assumption | (simp [maxLen]; done) | omega | (simp [maxLen]; omega)), (by first | omega | (simp only [Len] at *; omega) | (simp; omega)), ?_⟩; intro _ _ _ hM2 _ _; clear hM; have hM := hM2; clear hM2) | ((first | (with_reducible refine gL_field ?_) | ((with_reducible refine gG_field ?_ ?_); (exact wanted_of rfl rfl rfl rfl rfl))); refine ⟨_, _, rfl, (by (first | (exact field_one (fb_of rfl) rfl) | (exact field_agg (fa_of rfl) rfl))), ?_⟩) | (go_at_call 20; (with_reducible refine (law02_fixed _).mono ?_); rintro _ _ ⟨rfl, B1⟩; replace hM := hM.adds B1; clear B1))
    go_ret
    exact ⟨rfl, hM.done⟩
end Go.Proofs.Ytejmbkljnhnklaa
