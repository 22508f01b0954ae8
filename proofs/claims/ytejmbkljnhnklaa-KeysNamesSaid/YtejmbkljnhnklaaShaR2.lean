/-
  The walk of the reference of layer 2: piece.
-/
import Derived.Test.YtejmbkljnhnklaaShaR
namespace Go.Proofs.Ytejmbkljnhnklaa
open Go.RowKit Go.PK

set_option maxRecDepth 100000 in
set_option maxHeartbeats 4000000 in
theorem ref02_piece (w0 : World) (s : List UInt32) (hs : s.length = 8) (v : Value) (mm : List UInt8) (hv : Bytes w0 v mm) (hc : mm.length = 64) :
    Calls Try.prog 65 #[.agg (s.map W32).toArray, v, .agg (Sha.ks.map W32).toArray] w0 fun e w' => e = .returned (.agg ((Sha.piece s mm).map W32).toArray) ∧ Below w0.heap.size w0 w' := by
  obtain ⟨O, hO⟩ : ∃ O, O = Sha.piece s mm := ⟨_, rfl⟩
  have hOl : O.length = 8 := by rw [hO]; exact Sha.piece_len _ _ hs
  rw [← hO]
  have hwalk := ref02_words
  have hWl : (Sha.wl mm 64).length = 64 := Sha.wl_len _ _
  have HP : ∀ _ : Unit, O = Sha.plus s (Sha.rnd s (Sha.wl mm 64) 64) := fun _ => by rw [hO]; exact Sha.piece_eq s mm
  have hwords : ∀ w, Bytes w v mm → Calls Try.prog 88 #[v] w fun e w' => e = .returned (.agg ((Sha.wl mm 64).map W32).toArray) ∧ Below w.heap.size w w' := fun w h => ref02_words w v mm h hc
  clear hO hwalk
  generalize Sha.wl mm 64 = W at *
  have hk1 : Len (Sha.ks.map W32) 64 := ks_w32
  obtain ⟨KS, hKS⟩ : ∃ KS, KS = Sha.ks := ⟨_, rfl⟩
  have hKl : KS.length = 64 := by rw [hKS]; rfl
  rw [← hKS] at hk1 ⊢
  have HK : ∀ _ : Unit, KS = Sha.ks := fun _ => hKS
  clear hKS
  have hl1 : Len (s.map W32) 8 := W32_len hs
  have hl2 : Len (W.map W32) 64 := W32_len hWl
  have hM := Mem.start w0
  go_enter Try.func65, Try.ntmps65
  go_wp2_with (first | ((first | ((with_reducible refine gL_alloc (dst := some 3) hM ?_); refine ⟨_, _, (zr_of rfl), ?_⟩) | ((with_reducible refine gL_box (dst := some 3) hM ?_); refine ⟨_, _, _, rfl, rfl, (by first | assumption | exact Len.map (by assumption) _ | rfl | exact Len.map (by rfl) _ | exact Len.of (by simp; done)), ?_⟩)); intro g3 _ hM2; clear hM; have hM := hM2; clear hM2) | ((first | ((with_reducible refine gL_alloc (dst := some 5) hM ?_); refine ⟨_, _, (zr_of rfl), ?_⟩) | ((with_reducible refine gL_box (dst := some 5) hM ?_); refine ⟨_, _, _, rfl, rfl, (by first | assumption | exact Len.map (by assumption) _ | rfl | exact Len.map (by rfl) _ | exact Len.of (by simp; done)), ?_⟩)); intro g5 _ hM2; clear hM; have hM := hM2; clear hM2) | ((first | ((with_reducible refine gL_alloc (dst := some 6) hM ?_); refine ⟨_, _, (zr_of rfl), ?_⟩) | ((with_reducible refine gL_box (dst := some 6) hM ?_); refine ⟨_, _, _, rfl, rfl, (by first | assumption | exact Len.map (by assumption) _ | rfl | exact Len.map (by rfl) _ | exact Len.of (by simp; done)), ?_⟩)); intro g6 _ hM2; clear hM; have hM := hM2; clear hM2) | ((first | ((with_reducible refine gL_alloc (dst := some 7) hM ?_); refine ⟨_, _, (zr_of rfl), ?_⟩) | ((with_reducible refine gL_box (dst := some 7) hM ?_); refine ⟨_, _, _, rfl, rfl, (by first | assumption | exact Len.map (by assumption) _ | rfl | exact Len.map (by rfl) _ | exact Len.of (by simp; done)), ?_⟩)); intro g7 _ hM2; clear hM; have hM := hM2; clear hM2) | ((first | ((with_reducible refine gL_alloc (dst := some 8) hM ?_); refine ⟨_, _, (zr_of rfl), ?_⟩) | ((with_reducible refine gL_box (dst := some 8) hM ?_); refine ⟨_, _, _, rfl, rfl, (by first | assumption | exact Len.map (by assumption) _ | rfl | exact Len.map (by rfl) _ | exact Len.of (by simp; done)), ?_⟩)); intro g8 _ hM2; clear hM; have hM := hM2; clear hM2) | (go_at_call 88; have hvw := hM.bytes0 hv; (with_reducible refine (hwords _ hvw).mono ?_); clear hvw; rintro _ _ ⟨rfl, B1⟩; replace hM := hM.adds B1; clear B1) | go_skip | ((first | (with_reducible refine gL_load ?_) | ((with_reducible refine gG_load ?_ ?_); (exact wanted_of rfl rfl rfl rfl rfl))); refine ⟨_, _, rfl, (by (first | (assumption) | (exact hM.loads_B8 (by (repeat (first | exact .head _ | apply List.Mem.tail)); done) (on_of rfl) (by first | omega | (simp only [Len] at *; omega) | (simp; omega))) | (exact hM.loads_all (by (repeat (first | exact .head _ | apply List.Mem.tail)); done) (ag_of rfl) (by first | assumption | exact Len.map (by assumption) _ | rfl | exact Len.map (by rfl) _ | exact Len.of (by simp; done))) | (exact hM.loads_one (by (repeat (first | exact .head _ | apply List.Mem.tail)); done) (on_of rfl) rfl) | (exact hM.loads_W32 (by (repeat (first | exact .head _ | apply List.Mem.tail)); done) (on_of rfl) (by first | omega | (simp only [Len] at *; omega) | (simp; omega))) | (exact loads_cell (by assumption) (on_of rfl)))), ?_⟩) | ((with_reducible refine gL_store hM ?_); refine ⟨_, _, _, rfl, rfl, (by (first | (exact hM.stores_B8 (by first | exact (rfl : B8 _ = B8 _) | exact lit8 _ (by decide)) (by (repeat (first | exact .here _ _ _ | apply Has.there)); done) (on_of rfl) (by first | omega | (simp only [Len] at *; omega) | (simp; omega))) | (exact hM.stores_all (by (repeat (first | exact .here _ _ _ | apply Has.there)); done) (ag_of rfl) (by first | assumption | exact Len.map (by assumption) _ | rfl | exact Len.map (by rfl) _ | exact Len.of (by simp; done)) (by first | assumption | exact Len.map (by assumption) _ | rfl | exact Len.map (by rfl) _ | exact Len.of (by simp; done)) (by first | exact B8_one | exact W32_one | exact one_of_all rfl)) | (exact hM.stores_W32 rfl (by (repeat (first | exact .here _ _ _ | apply Has.there)); done) (on_of rfl) (by first | omega | (simp only [Len] at *; omega) | (simp; omega))) | (exact hM.stores_one (by (repeat (first | exact .here _ _ _ | apply Has.there)); done) (on_of rfl) (by first | omega | (simp only [Len] at *; omega) | (simp; omega)) rfl rfl))), ?_⟩; intro _ hM2; clear hM; have hM := hM2; clear hM2) | ((with_reducible refine gL_alloc hM ?_); refine ⟨_, _, (zr_of rfl), ?_⟩; intro _ _ hM2; clear hM; have hM := hM2; clear hM2) | ((with_reducible refine gL_box hM ?_); refine ⟨_, _, _, rfl, rfl, (by first | assumption | exact Len.map (by assumption) _ | rfl | exact Len.map (by rfl) _ | exact Len.of (by simp; done)), ?_⟩; intro _ _ hM2; clear hM; have hM := hM2; clear hM2) | ((with_reducible refine gL_build0 ?_); refine ⟨_, _, _, _, _, _, (zr_of rfl), (ua_of rfl), (ag_of rfl), (el_of rfl), ?_⟩) | ((with_reducible refine gL_buildBytes hM ?_); refine ⟨_, _, (us_of rfl), (el_of rfl), (by decide), (by decide), rfl, (by (repeat (first | exact EvB.nil | apply EvB.cons rfl (by first | exact (rfl : B8 _ = B8 _) | exact lit8 _ (by decide)))); done), ?_⟩; intro _ _ hM2; clear hM; have hM := hM2; clear hM2) | ((with_reducible refine gL_append_B hM ?_); refine ⟨_, _, _, _, _, _, _, _, _, _, rfl, rfl, (by first | exact (rfl : Value.slice (some ⟨_, 0, none⟩) _ _ = sl (some _) _ _) | exact (rfl : Value.slice none _ _ = sl none _ _) | rfl), (us_of rfl), (el_of rfl), (by first | exact hM.src (by (repeat (first | exact .head _ | apply List.Mem.tail)); done) | exact (hM.bytes0 (by assumption)).src), (fun _ _ => by (repeat (first | exact .here _ _ _ | apply Swap.there)); done), (by first | assumption | exact Len.map (by assumption) _ | rfl | exact Len.map (by rfl) _ | exact Len.of (by simp; done)), (by first | assumption | exact Len.map (by assumption) _ | rfl | exact Len.map (by rfl) _ | exact Len.of (by simp; done)), (by first | assumption | (simp [maxLen]; done) | omega | (simp [maxLen]; omega)), (by first | omega | (simp only [Len] at *; omega) | (simp; omega)), ?_⟩; intro _ _ _ hM2 _ _; clear hM; have hM := hM2; clear hM2) | ((first | (with_reducible refine gL_field ?_) | ((with_reducible refine gG_field ?_ ?_); (exact wanted_of rfl rfl rfl rfl rfl))); refine ⟨_, _, rfl, (by (first | (exact field_one (fb_of rfl) rfl) | (exact field_agg (fa_of rfl) rfl))), ?_⟩))
  go_loopw [9, 10, 11, 12, 13] (fun i _ _ _ _ wr => ∃ t : Nat, t ≤ 64 ∧ i = .int .i64 t ∧ Mem [] w0 wr [⟨some g8, 111, (Sha.rnd s W t).map W32, 8⟩, ⟨some g7, 113, W.map W32, 64⟩, ⟨some g6, 111, (List.replicate 8 (0 : UInt32)).map W32, 8⟩, ⟨some g5, 113, KS.map W32, 64⟩, ⟨some g3, 111, s.map W32, 8⟩]) (fun i _ _ _ _ _ => 64 - (intOf i).toNat)
  case atStart => exact ⟨0, by omega, rfl, hM⟩
  case round =>
    clear hM
    obtain ⟨t, ht, rfl, hM⟩ := hrel
    have hrl := Sha.rnd_len s W t hs
    by_cases hlt : t < 64
    · have hti : (t : Int) < 64 := by omega
      have HS : ∀ _ : Unit, Sha.rnd s W (t + 1) = Sha.round (Sha.rnd s W t) (gw KS t) (gw W t) := fun _ => by rw [HK ()]; rfl
      generalize Sha.rnd s W t = R at *
      go_wp2_with (first | go_skip | ((first | (with_reducible refine gL_load ?_) | ((with_reducible refine gG_load ?_ ?_); (exact wanted_of rfl rfl rfl rfl rfl))); refine ⟨_, _, rfl, (by (first | (assumption) | (exact hM.loads_B8 (by (repeat (first | exact .head _ | apply List.Mem.tail)); done) (on_of rfl) (by first | omega | (simp only [Len] at *; omega) | (simp; omega))) | (exact hM.loads_all (by (repeat (first | exact .head _ | apply List.Mem.tail)); done) (ag_of rfl) (by first | assumption | exact Len.map (by assumption) _ | rfl | exact Len.map (by rfl) _ | exact Len.of (by simp; done))) | (exact hM.loads_one (by (repeat (first | exact .head _ | apply List.Mem.tail)); done) (on_of rfl) rfl) | (exact hM.loads_W32 (by (repeat (first | exact .head _ | apply List.Mem.tail)); done) (on_of rfl) (by first | omega | (simp only [Len] at *; omega) | (simp; omega))) | (exact loads_cell (by assumption) (on_of rfl)))), ?_⟩) | ((with_reducible refine gL_store hM ?_); refine ⟨_, _, _, rfl, rfl, (by (first | (exact hM.stores_B8 (by first | exact (rfl : B8 _ = B8 _) | exact lit8 _ (by decide)) (by (repeat (first | exact .here _ _ _ | apply Has.there)); done) (on_of rfl) (by first | omega | (simp only [Len] at *; omega) | (simp; omega))) | (exact hM.stores_all (by (repeat (first | exact .here _ _ _ | apply Has.there)); done) (ag_of rfl) (by first | assumption | exact Len.map (by assumption) _ | rfl | exact Len.map (by rfl) _ | exact Len.of (by simp; done)) (by first | assumption | exact Len.map (by assumption) _ | rfl | exact Len.map (by rfl) _ | exact Len.of (by simp; done)) (by first | exact B8_one | exact W32_one | exact one_of_all rfl)) | (exact hM.stores_W32 rfl (by (repeat (first | exact .here _ _ _ | apply Has.there)); done) (on_of rfl) (by first | omega | (simp only [Len] at *; omega) | (simp; omega))) | (exact hM.stores_one (by (repeat (first | exact .here _ _ _ | apply Has.there)); done) (on_of rfl) (by first | omega | (simp only [Len] at *; omega) | (simp; omega)) rfl rfl))), ?_⟩; intro _ hM2; clear hM; have hM := hM2; clear hM2) | ((with_reducible refine gL_alloc hM ?_); refine ⟨_, _, (zr_of rfl), ?_⟩; intro _ _ hM2; clear hM; have hM := hM2; clear hM2) | ((with_reducible refine gL_box hM ?_); refine ⟨_, _, _, rfl, rfl, (by first | assumption | exact Len.map (by assumption) _ | rfl | exact Len.map (by rfl) _ | exact Len.of (by simp; done)), ?_⟩; intro _ _ hM2; clear hM; have hM := hM2; clear hM2) | ((with_reducible refine gL_build0 ?_); refine ⟨_, _, _, _, _, _, (zr_of rfl), (ua_of rfl), (ag_of rfl), (el_of rfl), ?_⟩) | ((with_reducible refine gL_buildBytes hM ?_); refine ⟨_, _, (us_of rfl), (el_of rfl), (by decide), (by decide), rfl, (by (repeat (first | exact EvB.nil | apply EvB.cons rfl (by first | exact (rfl : B8 _ = B8 _) | exact lit8 _ (by decide)))); done), ?_⟩; intro _ _ hM2; clear hM; have hM := hM2; clear hM2) | ((with_reducible refine gL_append_B hM ?_); refine ⟨_, _, _, _, _, _, _, _, _, _, rfl, rfl, (by first | exact (rfl : Value.slice (some ⟨_, 0, none⟩) _ _ = sl (some _) _ _) | exact (rfl : Value.slice none _ _ = sl none _ _) | rfl), (us_of rfl), (el_of rfl), (by first | exact hM.src (by (repeat (first | exact .head _ | apply List.Mem.tail)); done) | exact (hM.bytes0 (by assumption)).src), (fun _ _ => by (repeat (first | exact .here _ _ _ | apply Swap.there)); done), (by first | assumption | exact Len.map (by assumption) _ | rfl | exact Len.map (by rfl) _ | exact Len.of (by simp; done)), (by first | assumption | exact Len.map (by assumption) _ | rfl | exact Len.map (by rfl) _ | exact Len.of (by simp; done)), (by first | assumption | (simp [maxLen]; done) | omega | (simp [maxLen]; omega)), (by first | omega | (simp only [Len] at *; omega) | (simp; omega)), ?_⟩; intro _ _ _ hM2 _ _; clear hM; have hM := hM2; clear hM2) | ((first | (with_reducible refine gL_field ?_) | ((with_reducible refine gG_field ?_ ?_); (exact wanted_of rfl rfl rfl rfl rfl))); refine ⟨_, _, rfl, (by (first | (exact field_one (fb_of rfl) rfl) | (exact field_agg (fa_of rfl) rfl))), ?_⟩))
      try simp only [Act.put, List.setIfInBounds_toArray, List.set_cons_succ, List.set_cons_zero]
      refine wp_region_tail 6 (by decide) (fun c vals => ⟨#[c 0, c 1, c 2, c 3, c 4, c 5, c 6, c 7, (Value.pointer (some ⟨g8, 0, none⟩) : Value), c 9, vals 4, vals 5, c 12, c 13, c 14, c 15, c 16, c 17, c 18, c 19, c 20, c 21, vals 0, vals 1, vals 2, vals 3, c 26, c 27, c 28, c 29, c 30, c 31, c 32, c 33, c 34, c 35, c 36, c 37, c 38, c 39, c 40, c 41, c 42, c 43, c 44, c 45, c 46, c 47, c 48, c 49, c 50, c 51, c 52, c 53, c 54, c 55, c 56, c 57, c 58, c 59, c 60, c 61, c 62, c 63, c 64, c 65, c 66, c 67, c 68, c 69, c 70, c 71, c 72, c 73, c 74, c 75, c 76, c 77, c 78, c 79, c 80, c 81, c 82, c 83, c 84, c 85, c 86, c 87, c 88, c 89, c 90, c 91, c 92, c 93, c 94, c 95, c 96, c 97, c 98, c 99, c 100, c 101, c 102, c 103, c 104, c 105, c 106, c 107, c 108, c 109, c 110, c 111, c 112], []⟩) (fun t => [_, _, _, _, _, _, _, _, undef, _, undef, undef, _, _, _, _, _, _, _, _, _, _, undef, undef, undef, undef, _, _, _, _, _, _, _, _, _, _, _, _, _, _, _, _, _, _, _, _, _, _, _, _, _, _, _, _, _, _, _, _, _, _, _, _, _, _, _, _, _, _, _, _, _, _, _, _, _, _, _, _, _, _, _, _, _, _, _, _, _, _, _, _, _, _, _, _, _, _, _, _, _, _, _, _, _, _, _, _, _, _, _, _, _, _, _].getD t undef) (fun i => [_, _, _, _, _, _].getD i undef) (by kernel_rfl)
        [[], [0], [], [2], [0, 1], [0, 1, 2, 3, 4]] (by kernel_rfl) (by kernel_rfl) (fun _ => True) trivial
        [fun x _ => x = (Value.pointer (some ⟨g8, 0, none⟩) : Value),
         fun x _ => x = (W32 (gw R 0) : Value),
         fun x _ => x = (Value.pointer (some ⟨g8, 4, none⟩) : Value),
         fun x _ => x = (W32 (gw R 4) : Value),
         fun x _ => x = (W32 (gw R 0) : Value),
         fun x _ => x = (W32 (gw R 4) : Value)]
        ⟨fun _ _ _ h _ => h, fun _ _ _ h _ => h, fun _ _ _ h _ => h, fun _ _ _ h _ => h, fun _ _ _ h _ => h, fun _ _ _ h _ => h, trivial⟩ []
        ⟨?_, ?_, ?_, ?_, ?_, ?_, trivial⟩ ?_
      · refine showA_op 0 (by intro _ _ _; kernel_rfl) rfl rfl (fun c vals w hC hD => ?_)
        clear hD
        refine makes1 (x := .tmp 8) (X := Value.pointer (some ⟨g8, 0, none⟩)) (by kernel_rfl : _ = (Value.pointer (some ⟨g8, 0, none⟩) : Value)) (fun ρ rc rf q8 => ?_)
        refine makes_value (v := Value.pointer (some ⟨g8, 0, none⟩)) ?_ ⟨Adds.refl _, rfl⟩
        go_simp
        all_goals first | done | rfl | (rw [if_pos (by omega)]; refine congrArg (fun x => Result.ok (Next.value (Value.pointer (some ⟨_, x, none⟩))) _) ?_; omega) | (rw [wrapP_i64]; omega) | go_num | (simp; done) | (simp; omega) | (congr 1; first | rfl | (rw [wrapP_i64]; omega) | (congr 1; first | rfl | (simp; done) | (simp; omega) | (congr 2; omega) | go_num))
      · refine showA_op 1 (by intro _ _ _; kernel_rfl) rfl rfl (fun c vals w hC hD => ?_)
        have h0 : vals 0 = .pointer (some ⟨g8, 0, none⟩) := hD 0 rfl
        clear hD
        refine makes1 (x := .tmp 22) (X := Value.pointer (some ⟨g8, 0, none⟩)) ((by kernel_rfl : _ = vals 0).trans h0) (fun ρ rc rf q22 => ?_)
        clear h0
        exact makes_load ((hM.adds hC).loads_W32 (by (repeat (first | exact .head _ | apply List.Mem.tail)); done) (on_of rfl) (by first | omega | (simp only [Len] at *; omega) | (simp; omega))) rfl q22 ⟨Adds.refl _, rfl⟩
      · refine showA_op 2 (by intro _ _ _; kernel_rfl) rfl rfl (fun c vals w hC hD => ?_)
        clear hD
        refine makes1 (x := .tmp 8) (X := Value.pointer (some ⟨g8, 0, none⟩)) (by kernel_rfl : _ = (Value.pointer (some ⟨g8, 0, none⟩) : Value)) (fun ρ rc rf q8 => ?_)
        refine makes_value (v := Value.pointer (some ⟨g8, 4, none⟩)) ?_ ⟨Adds.refl _, rfl⟩
        go_simp
        all_goals first | done | rfl | (rw [if_pos (by omega)]; refine congrArg (fun x => Result.ok (Next.value (Value.pointer (some ⟨_, x, none⟩))) _) ?_; omega) | (rw [wrapP_i64]; omega) | go_num | (simp; done) | (simp; omega) | (congr 1; first | rfl | (rw [wrapP_i64]; omega) | (congr 1; first | rfl | (simp; done) | (simp; omega) | (congr 2; omega) | go_num))
      · refine showA_op 3 (by intro _ _ _; kernel_rfl) rfl rfl (fun c vals w hC hD => ?_)
        have h2 : vals 2 = .pointer (some ⟨g8, 4, none⟩) := hD 2 rfl
        clear hD
        refine makes1 (x := .tmp 24) (X := Value.pointer (some ⟨g8, 4, none⟩)) ((by kernel_rfl : _ = vals 2).trans h2) (fun ρ rc rf q24 => ?_)
        clear h2
        exact makes_load ((hM.adds hC).loads_W32 (by (repeat (first | exact .head _ | apply List.Mem.tail)); done) (on_of rfl) (by first | omega | (simp only [Len] at *; omega) | (simp; omega))) rfl q24 ⟨Adds.refl _, rfl⟩
      · refine showA_op 4 (by intro _ _ _; kernel_rfl) rfl rfl (fun c vals w hC hD => ?_)
        have h1 : vals 1 = W32 (gw R 0) := hD 1 rfl
        clear hD
        refine makes1 (x := .tmp 23) (X := W32 (gw R 0)) ((by kernel_rfl : _ = vals 1).trans h1) (fun ρ rc rf q23 => ?_)
        clear h1
        exact makes_move (.inr rfl) q23 ⟨Adds.refl _, rfl⟩
      · refine showA_op 5 (by intro _ _ _; kernel_rfl) rfl rfl (fun c vals w hC hD => ?_)
        have h3 : vals 3 = W32 (gw R 4) := hD 3 rfl
        clear hD
        refine makes1 (x := .tmp 25) (X := W32 (gw R 4)) ((by kernel_rfl : _ = vals 3).trans h3) (fun ρ rc rf q25 => ?_)
        clear h3
        exact makes_move (.inr rfl) q25 ⟨Adds.refl _, rfl⟩
      intro vals w' hC hΦ hne
      have h4 : vals 4 = W32 (gw R 0) := hΦ 4 (by decide)
      have h5 : vals 5 = W32 (gw R 4) := hΦ 5 (by decide)
      clear hΦ hne
      simp only [List.getD_eq_getElem?_getD, List.getElem?_cons_zero, List.getElem?_cons_succ, Option.getD_some, List.drop_succ_cons, List.drop_zero]
      simp only [h4, h5]
      clear h4 h5
      try simp only [tuple_undef]
      replace hM := hM.adds hC
      clear hC
      go_wp2_with (first | go_skip | ((first | (with_reducible refine gL_load ?_) | ((with_reducible refine gG_load ?_ ?_); (exact wanted_of rfl rfl rfl rfl rfl))); refine ⟨_, _, rfl, (by (first | (assumption) | (exact hM.loads_B8 (by (repeat (first | exact .head _ | apply List.Mem.tail)); done) (on_of rfl) (by first | omega | (simp only [Len] at *; omega) | (simp; omega))) | (exact hM.loads_all (by (repeat (first | exact .head _ | apply List.Mem.tail)); done) (ag_of rfl) (by first | assumption | exact Len.map (by assumption) _ | rfl | exact Len.map (by rfl) _ | exact Len.of (by simp; done))) | (exact hM.loads_one (by (repeat (first | exact .head _ | apply List.Mem.tail)); done) (on_of rfl) rfl) | (exact hM.loads_W32 (by (repeat (first | exact .head _ | apply List.Mem.tail)); done) (on_of rfl) (by first | omega | (simp only [Len] at *; omega) | (simp; omega))) | (exact loads_cell (by assumption) (on_of rfl)))), ?_⟩) | ((with_reducible refine gL_store hM ?_); refine ⟨_, _, _, rfl, rfl, (by (first | (exact hM.stores_B8 (by first | exact (rfl : B8 _ = B8 _) | exact lit8 _ (by decide)) (by (repeat (first | exact .here _ _ _ | apply Has.there)); done) (on_of rfl) (by first | omega | (simp only [Len] at *; omega) | (simp; omega))) | (exact hM.stores_all (by (repeat (first | exact .here _ _ _ | apply Has.there)); done) (ag_of rfl) (by first | assumption | exact Len.map (by assumption) _ | rfl | exact Len.map (by rfl) _ | exact Len.of (by simp; done)) (by first | assumption | exact Len.map (by assumption) _ | rfl | exact Len.map (by rfl) _ | exact Len.of (by simp; done)) (by first | exact B8_one | exact W32_one | exact one_of_all rfl)) | (exact hM.stores_W32 rfl (by (repeat (first | exact .here _ _ _ | apply Has.there)); done) (on_of rfl) (by first | omega | (simp only [Len] at *; omega) | (simp; omega))) | (exact hM.stores_one (by (repeat (first | exact .here _ _ _ | apply Has.there)); done) (on_of rfl) (by first | omega | (simp only [Len] at *; omega) | (simp; omega)) rfl rfl))), ?_⟩; intro _ hM2; clear hM; have hM := hM2; clear hM2) | ((with_reducible refine gL_alloc hM ?_); refine ⟨_, _, (zr_of rfl), ?_⟩; intro _ _ hM2; clear hM; have hM := hM2; clear hM2) | ((with_reducible refine gL_box hM ?_); refine ⟨_, _, _, rfl, rfl, (by first | assumption | exact Len.map (by assumption) _ | rfl | exact Len.map (by rfl) _ | exact Len.of (by simp; done)), ?_⟩; intro _ _ hM2; clear hM; have hM := hM2; clear hM2) | ((with_reducible refine gL_build0 ?_); refine ⟨_, _, _, _, _, _, (zr_of rfl), (ua_of rfl), (ag_of rfl), (el_of rfl), ?_⟩) | ((with_reducible refine gL_buildBytes hM ?_); refine ⟨_, _, (us_of rfl), (el_of rfl), (by decide), (by decide), rfl, (by (repeat (first | exact EvB.nil | apply EvB.cons rfl (by first | exact (rfl : B8 _ = B8 _) | exact lit8 _ (by decide)))); done), ?_⟩; intro _ _ hM2; clear hM; have hM := hM2; clear hM2) | ((with_reducible refine gL_append_B hM ?_); refine ⟨_, _, _, _, _, _, _, _, _, _, rfl, rfl, (by first | exact (rfl : Value.slice (some ⟨_, 0, none⟩) _ _ = sl (some _) _ _) | exact (rfl : Value.slice none _ _ = sl none _ _) | rfl), (us_of rfl), (el_of rfl), (by first | exact hM.src (by (repeat (first | exact .head _ | apply List.Mem.tail)); done) | exact (hM.bytes0 (by assumption)).src), (fun _ _ => by (repeat (first | exact .here _ _ _ | apply Swap.there)); done), (by first | assumption | exact Len.map (by assumption) _ | rfl | exact Len.map (by rfl) _ | exact Len.of (by simp; done)), (by first | assumption | exact Len.map (by assumption) _ | rfl | exact Len.map (by rfl) _ | exact Len.of (by simp; done)), (by first | assumption | (simp [maxLen]; done) | omega | (simp [maxLen]; omega)), (by first | omega | (simp only [Len] at *; omega) | (simp; omega)), ?_⟩; intro _ _ _ hM2 _ _; clear hM; have hM := hM2; clear hM2) | ((first | (with_reducible refine gL_field ?_) | ((with_reducible refine gG_field ?_ ?_); (exact wanted_of rfl rfl rfl rfl rfl))); refine ⟨_, _, rfl, (by (first | (exact field_one (fb_of rfl) rfl) | (exact field_agg (fa_of rfl) rfl))), ?_⟩))
      try simp only [Act.put, List.setIfInBounds_toArray, List.set_cons_succ, List.set_cons_zero]
      refine wp_region_tail 31 (by decide) (fun c vals => ⟨#[c 0, c 1, c 2, c 3, c 4, (Value.pointer (some ⟨g5, 0, none⟩) : Value), c 6, (Value.pointer (some ⟨g7, 0, none⟩) : Value), (Value.pointer (some ⟨g8, 0, none⟩) : Value), (Value.int .i64 ((t : Nat) : Int) : Value), (W32 (gw R 0) : Value), (W32 (gw R 4) : Value), vals 30, c 13, c 14, c 15, c 16, c 17, c 18, c 19, c 20, c 21, c 22, c 23, c 24, c 25, vals 0, vals 1, vals 2, vals 3, vals 4, vals 5, vals 6, vals 7, vals 8, vals 9, vals 10, vals 11, vals 12, vals 13, vals 14, vals 15, vals 16, vals 17, vals 18, vals 19, vals 20, vals 21, vals 22, vals 23, vals 24, vals 25, vals 26, vals 27, vals 28, vals 29, c 56, c 57, c 58, c 59, c 60, c 61, c 62, c 63, c 64, c 65, c 66, c 67, c 68, c 69, c 70, c 71, c 72, c 73, c 74, c 75, c 76, c 77, c 78, c 79, c 80, c 81, c 82, c 83, c 84, c 85, c 86, c 87, c 88, c 89, c 90, c 91, c 92, c 93, c 94, c 95, c 96, c 97, c 98, c 99, c 100, c 101, c 102, c 103, c 104, c 105, c 106, c 107, c 108, c 109, c 110, c 111, c 112], []⟩) (fun t => [_, _, _, _, _, undef, _, undef, undef, undef, undef, undef, undef, _, _, _, _, _, _, _, _, _, _, _, _, _, undef, undef, undef, undef, undef, undef, undef, undef, undef, undef, undef, undef, undef, undef, undef, undef, undef, undef, undef, undef, undef, undef, undef, undef, undef, undef, undef, undef, undef, undef, _, _, _, _, _, _, _, _, _, _, _, _, _, _, _, _, _, _, _, _, _, _, _, _, _, _, _, _, _, _, _, _, _, _, _, _, _, _, _, _, _, _, _, _, _, _, _, _, _, _, _, _, _, _, _, _, _].getD t undef) (fun i => [_, _, _, _, _, _, _, _, _, _, _, _, _, _, _, _, _, _, _, _, _, _, _, _, _, _, _, _, _, _, _].getD i undef) (by kernel_rfl)
        [[], [0], [], [2], [], [2, 3, 4], [2, 3, 4, 5], [], [2, 3, 4, 5, 7], [2, 3, 4, 5, 6, 7, 8], [0, 1, 2, 3, 4, 5, 6, 7, 8, 9], [], [], [12], [11, 12, 13], [], [15], [], [17], [15, 16, 17, 18], [11, 12, 13, 14, 15, 16, 17, 18, 19], [0, 1, 2, 3, 4, 5, 6, 7, 8, 9, 10, 11, 12, 13, 14, 15, 16, 17, 18, 19, 20], [], [22], [22, 23], [0, 1, 2, 3, 4, 5, 6, 7, 8, 9, 10, 11, 12, 13, 14, 15, 16, 17, 18, 19, 20, 21, 22, 23, 24], [], [26], [26, 27], [0, 1, 2, 3, 4, 5, 6, 7, 8, 9, 10, 11, 12, 13, 14, 15, 16, 17, 18, 19, 20, 21, 22, 23, 24, 25, 26, 27, 28], [0, 1, 2, 3, 4, 5, 6, 7, 8, 9, 10, 11, 12, 13, 14, 15, 16, 17, 18, 19, 20, 21, 22, 23, 24, 25, 26, 27, 28, 29]] (by kernel_rfl) (by kernel_rfl) (fun _ => True) trivial
        [fun x _ => x = (Value.pointer (some ⟨g8, 7, none⟩) : Value),
         fun x _ => x = (W32 (gw R 7) : Value),
         fun x _ => x = (W32 (gw R 4) : Value),
         fun x _ => x = (W32 (Sha.turned (gw R 4) 6) : Value),
         fun x _ => x = (W32 (gw R 4) : Value),
         fun x _ => x = (W32 (Sha.turned (gw R 4) 11) : Value),
         fun x _ => x = (W32 ((Sha.turned (gw R 4) 6) ^^^ (Sha.turned (gw R 4) 11)) : Value),
         fun x _ => x = (W32 (gw R 4) : Value),
         fun x _ => x = (W32 (Sha.turned (gw R 4) 25) : Value),
         fun x _ => x = (W32 (((Sha.turned (gw R 4) 6) ^^^ (Sha.turned (gw R 4) 11)) ^^^ (Sha.turned (gw R 4) 25)) : Value),
         fun x _ => x = (W32 ((gw R 7) + (((Sha.turned (gw R 4) 6) ^^^ (Sha.turned (gw R 4) 11)) ^^^ (Sha.turned (gw R 4) 25))) : Value),
         fun x _ => x = (W32 (gw R 4) : Value),
         fun x _ => x = (Value.pointer (some ⟨g8, 5, none⟩) : Value),
         fun x _ => x = (W32 (gw R 5) : Value),
         fun x _ => x = (W32 ((gw R 4) &&& (gw R 5)) : Value),
         fun x _ => x = (W32 (gw R 4) : Value),
         fun x _ => x = (W32 (~~~(gw R 4)) : Value),
         fun x _ => x = (Value.pointer (some ⟨g8, 6, none⟩) : Value),
         fun x _ => x = (W32 (gw R 6) : Value),
         fun x _ => x = (W32 ((~~~(gw R 4)) &&& (gw R 6)) : Value),
         fun x _ => x = (W32 (((gw R 4) &&& (gw R 5)) ^^^ ((~~~(gw R 4)) &&& (gw R 6))) : Value),
         fun x _ => x = (W32 (((gw R 7) + (((Sha.turned (gw R 4) 6) ^^^ (Sha.turned (gw R 4) 11)) ^^^ (Sha.turned (gw R 4) 25))) + (((gw R 4) &&& (gw R 5)) ^^^ ((~~~(gw R 4)) &&& (gw R 6)))) : Value),
         fun x _ => x = (Value.int .i64 ((t : Nat) : Int) : Value),
         fun x _ => x = (Value.pointer (some ⟨g5, t, none⟩) : Value),
         fun x _ => x = (W32 (gw KS t) : Value),
         fun x _ => x = (W32 ((((gw R 7) + (((Sha.turned (gw R 4) 6) ^^^ (Sha.turned (gw R 4) 11)) ^^^ (Sha.turned (gw R 4) 25))) + (((gw R 4) &&& (gw R 5)) ^^^ ((~~~(gw R 4)) &&& (gw R 6)))) + (gw KS t)) : Value),
         fun x _ => x = (Value.int .i64 ((t : Nat) : Int) : Value),
         fun x _ => x = (Value.pointer (some ⟨g7, t, none⟩) : Value),
         fun x _ => x = (W32 (gw W t) : Value),
         fun x _ => x = (W32 (((((gw R 7) + (((Sha.turned (gw R 4) 6) ^^^ (Sha.turned (gw R 4) 11)) ^^^ (Sha.turned (gw R 4) 25))) + (((gw R 4) &&& (gw R 5)) ^^^ ((~~~(gw R 4)) &&& (gw R 6)))) + (gw KS t)) + (gw W t)) : Value),
         fun x _ => x = (W32 (Sha.one R (gw KS t) (gw W t)) : Value)]
        ⟨fun _ _ _ h _ => h, fun _ _ _ h _ => h, fun _ _ _ h _ => h, fun _ _ _ h _ => h, fun _ _ _ h _ => h, fun _ _ _ h _ => h, fun _ _ _ h _ => h, fun _ _ _ h _ => h, fun _ _ _ h _ => h, fun _ _ _ h _ => h, fun _ _ _ h _ => h, fun _ _ _ h _ => h, fun _ _ _ h _ => h, fun _ _ _ h _ => h, fun _ _ _ h _ => h, fun _ _ _ h _ => h, fun _ _ _ h _ => h, fun _ _ _ h _ => h, fun _ _ _ h _ => h, fun _ _ _ h _ => h, fun _ _ _ h _ => h, fun _ _ _ h _ => h, fun _ _ _ h _ => h, fun _ _ _ h _ => h, fun _ _ _ h _ => h, fun _ _ _ h _ => h, fun _ _ _ h _ => h, fun _ _ _ h _ => h, fun _ _ _ h _ => h, fun _ _ _ h _ => h, fun _ _ _ h _ => h, trivial⟩ []
        ⟨?_, ?_, ?_, ?_, ?_, ?_, ?_, ?_, ?_, ?_, ?_, ?_, ?_, ?_, ?_, ?_, ?_, ?_, ?_, ?_, ?_, ?_, ?_, ?_, ?_, ?_, ?_, ?_, ?_, ?_, ?_, trivial⟩ ?_
      · refine showA_op 0 (by intro _ _ _; kernel_rfl) rfl rfl (fun c vals w hC hD => ?_)
        clear hD
        refine makes1 (x := .tmp 8) (X := Value.pointer (some ⟨g8, 0, none⟩)) (by kernel_rfl : _ = (Value.pointer (some ⟨g8, 0, none⟩) : Value)) (fun ρ rc rf q8 => ?_)
        refine makes_value (v := Value.pointer (some ⟨g8, 7, none⟩)) ?_ ⟨Adds.refl _, rfl⟩
        go_simp
        all_goals first | done | rfl | (rw [if_pos (by omega)]; refine congrArg (fun x => Result.ok (Next.value (Value.pointer (some ⟨_, x, none⟩))) _) ?_; omega) | (rw [wrapP_i64]; omega) | go_num | (simp; done) | (simp; omega) | (congr 1; first | rfl | (rw [wrapP_i64]; omega) | (congr 1; first | rfl | (simp; done) | (simp; omega) | (congr 2; omega) | go_num))
      · refine showA_op 1 (by intro _ _ _; kernel_rfl) rfl rfl (fun c vals w hC hD => ?_)
        have h0 : vals 0 = .pointer (some ⟨g8, 7, none⟩) := hD 0 rfl
        clear hD
        refine makes1 (x := .tmp 26) (X := Value.pointer (some ⟨g8, 7, none⟩)) ((by kernel_rfl : _ = vals 0).trans h0) (fun ρ rc rf q26 => ?_)
        clear h0
        exact makes_load ((hM.adds hC).loads_W32 (by (repeat (first | exact .head _ | apply List.Mem.tail)); done) (on_of rfl) (by first | omega | (simp only [Len] at *; omega) | (simp; omega))) rfl q26 ⟨Adds.refl _, rfl⟩
      · refine showA_op 2 (by intro _ _ _; kernel_rfl) rfl rfl (fun c vals w hC hD => ?_)
        clear hD
        refine makes1 (x := .tmp 11) (X := W32 (gw R 4)) (by kernel_rfl : _ = (W32 (gw R 4) : Value)) (fun ρ rc rf q11 => ?_)
        exact makes_move (.inl rfl) q11 ⟨Adds.refl _, rfl⟩
      · refine showA_op 3 (by intro _ _ _; kernel_rfl) rfl rfl (fun c vals w hC hD => ?_)
        have h2 : vals 2 = W32 (gw R 4) := hD 2 rfl
        clear hD
        refine makes1 (x := .tmp 28) (X := W32 (gw R 4)) ((by kernel_rfl : _ = vals 2).trans h2) (fun ρ rc rf q28 => ?_)
        clear h2
        refine makes_call (ref02_turned _ (gw R 4) 6 (by decide)) ?_ (by rintro e w' ⟨rfl, hb⟩; exact ⟨_, rfl, hb, rfl⟩)
        go_simp
      · refine showA_op 4 (by intro _ _ _; kernel_rfl) rfl rfl (fun c vals w hC hD => ?_)
        clear hD
        refine makes1 (x := .tmp 11) (X := W32 (gw R 4)) (by kernel_rfl : _ = (W32 (gw R 4) : Value)) (fun ρ rc rf q11 => ?_)
        exact makes_move (.inl rfl) q11 ⟨Adds.refl _, rfl⟩
      · refine showA_op 5 (by intro _ _ _; kernel_rfl) rfl rfl (fun c vals w hC hD => ?_)
        have h4 : vals 4 = W32 (gw R 4) := hD 4 rfl
        clear hD
        refine makes1 (x := .tmp 30) (X := W32 (gw R 4)) ((by kernel_rfl : _ = vals 4).trans h4) (fun ρ rc rf q30 => ?_)
        clear h4
        refine makes_call (ref02_turned _ (gw R 4) 11 (by decide)) ?_ (by rintro e w' ⟨rfl, hb⟩; exact ⟨_, rfl, hb, rfl⟩)
        go_simp
      · refine showA_op 6 (by intro _ _ _; kernel_rfl) rfl rfl (fun c vals w hC hD => ?_)
        have h3 : vals 3 = W32 (Sha.turned (gw R 4) 6) := hD 3 rfl
        have h5 : vals 5 = W32 (Sha.turned (gw R 4) 11) := hD 5 rfl
        clear hD
        refine makes2 (x := .tmp 29) (X := W32 (Sha.turned (gw R 4) 6)) (y := .tmp 31) (Y := W32 (Sha.turned (gw R 4) 11)) ((by kernel_rfl : _ = vals 3).trans h3) ((by kernel_rfl : _ = vals 5).trans h5) (fun ρ rc rf q29 q31 => ?_)
        clear h3 h5
        refine makes_value (v := W32 ((Sha.turned (gw R 4) 6) ^^^ (Sha.turned (gw R 4) 11))) ?_ ⟨Adds.refl _, rfl⟩
        go_simp
        all_goals first | done | rfl | (rw [if_pos (by omega)]; refine congrArg (fun x => Result.ok (Next.value (Value.pointer (some ⟨_, x, none⟩))) _) ?_; omega) | (rw [wrapP_i64]; omega) | go_num | (simp; done) | (simp; omega) | (congr 1; first | rfl | (rw [wrapP_i64]; omega) | (congr 1; first | rfl | (simp; done) | (simp; omega) | (congr 2; omega) | go_num))
      · refine showA_op 7 (by intro _ _ _; kernel_rfl) rfl rfl (fun c vals w hC hD => ?_)
        clear hD
        refine makes1 (x := .tmp 11) (X := W32 (gw R 4)) (by kernel_rfl : _ = (W32 (gw R 4) : Value)) (fun ρ rc rf q11 => ?_)
        exact makes_move (.inl rfl) q11 ⟨Adds.refl _, rfl⟩
      · refine showA_op 8 (by intro _ _ _; kernel_rfl) rfl rfl (fun c vals w hC hD => ?_)
        have h7 : vals 7 = W32 (gw R 4) := hD 7 rfl
        clear hD
        refine makes1 (x := .tmp 33) (X := W32 (gw R 4)) ((by kernel_rfl : _ = vals 7).trans h7) (fun ρ rc rf q33 => ?_)
        clear h7
        refine makes_call (ref02_turned _ (gw R 4) 25 (by decide)) ?_ (by rintro e w' ⟨rfl, hb⟩; exact ⟨_, rfl, hb, rfl⟩)
        go_simp
      · refine showA_op 9 (by intro _ _ _; kernel_rfl) rfl rfl (fun c vals w hC hD => ?_)
        have h6 : vals 6 = W32 ((Sha.turned (gw R 4) 6) ^^^ (Sha.turned (gw R 4) 11)) := hD 6 rfl
        have h8 : vals 8 = W32 (Sha.turned (gw R 4) 25) := hD 8 rfl
        clear hD
        refine makes2 (x := .tmp 32) (X := W32 ((Sha.turned (gw R 4) 6) ^^^ (Sha.turned (gw R 4) 11))) (y := .tmp 34) (Y := W32 (Sha.turned (gw R 4) 25)) ((by kernel_rfl : _ = vals 6).trans h6) ((by kernel_rfl : _ = vals 8).trans h8) (fun ρ rc rf q32 q34 => ?_)
        clear h6 h8
        refine makes_value (v := W32 (((Sha.turned (gw R 4) 6) ^^^ (Sha.turned (gw R 4) 11)) ^^^ (Sha.turned (gw R 4) 25))) ?_ ⟨Adds.refl _, rfl⟩
        go_simp
        all_goals first | done | rfl | (rw [if_pos (by omega)]; refine congrArg (fun x => Result.ok (Next.value (Value.pointer (some ⟨_, x, none⟩))) _) ?_; omega) | (rw [wrapP_i64]; omega) | go_num | (simp; done) | (simp; omega) | (congr 1; first | rfl | (rw [wrapP_i64]; omega) | (congr 1; first | rfl | (simp; done) | (simp; omega) | (congr 2; omega) | go_num))
      · refine showA_op 10 (by intro _ _ _; kernel_rfl) rfl rfl (fun c vals w hC hD => ?_)
        have h1 : vals 1 = W32 (gw R 7) := hD 1 rfl
        have h9 : vals 9 = W32 (((Sha.turned (gw R 4) 6) ^^^ (Sha.turned (gw R 4) 11)) ^^^ (Sha.turned (gw R 4) 25)) := hD 9 rfl
        clear hD
        refine makes2 (x := .tmp 27) (X := W32 (gw R 7)) (y := .tmp 35) (Y := W32 (((Sha.turned (gw R 4) 6) ^^^ (Sha.turned (gw R 4) 11)) ^^^ (Sha.turned (gw R 4) 25))) ((by kernel_rfl : _ = vals 1).trans h1) ((by kernel_rfl : _ = vals 9).trans h9) (fun ρ rc rf q27 q35 => ?_)
        clear h1 h9
        refine makes_value (v := W32 ((gw R 7) + (((Sha.turned (gw R 4) 6) ^^^ (Sha.turned (gw R 4) 11)) ^^^ (Sha.turned (gw R 4) 25)))) ?_ ⟨Adds.refl _, rfl⟩
        go_simp
        all_goals first | done | rfl | (rw [if_pos (by omega)]; refine congrArg (fun x => Result.ok (Next.value (Value.pointer (some ⟨_, x, none⟩))) _) ?_; omega) | (rw [wrapP_i64]; omega) | go_num | (simp; done) | (simp; omega) | (congr 1; first | rfl | (rw [wrapP_i64]; omega) | (congr 1; first | rfl | (simp; done) | (simp; omega) | (congr 2; omega) | go_num))
      · refine showA_op 11 (by intro _ _ _; kernel_rfl) rfl rfl (fun c vals w hC hD => ?_)
        clear hD
        refine makes1 (x := .tmp 11) (X := W32 (gw R 4)) (by kernel_rfl : _ = (W32 (gw R 4) : Value)) (fun ρ rc rf q11 => ?_)
        exact makes_move (.inl rfl) q11 ⟨Adds.refl _, rfl⟩
      · refine showA_op 12 (by intro _ _ _; kernel_rfl) rfl rfl (fun c vals w hC hD => ?_)
        clear hD
        refine makes1 (x := .tmp 8) (X := Value.pointer (some ⟨g8, 0, none⟩)) (by kernel_rfl : _ = (Value.pointer (some ⟨g8, 0, none⟩) : Value)) (fun ρ rc rf q8 => ?_)
        refine makes_value (v := Value.pointer (some ⟨g8, 5, none⟩)) ?_ ⟨Adds.refl _, rfl⟩
        go_simp
        all_goals first | done | rfl | (rw [if_pos (by omega)]; refine congrArg (fun x => Result.ok (Next.value (Value.pointer (some ⟨_, x, none⟩))) _) ?_; omega) | (rw [wrapP_i64]; omega) | go_num | (simp; done) | (simp; omega) | (congr 1; first | rfl | (rw [wrapP_i64]; omega) | (congr 1; first | rfl | (simp; done) | (simp; omega) | (congr 2; omega) | go_num))
      · refine showA_op 13 (by intro _ _ _; kernel_rfl) rfl rfl (fun c vals w hC hD => ?_)
        have h12 : vals 12 = .pointer (some ⟨g8, 5, none⟩) := hD 12 rfl
        clear hD
        refine makes1 (x := .tmp 38) (X := Value.pointer (some ⟨g8, 5, none⟩)) ((by kernel_rfl : _ = vals 12).trans h12) (fun ρ rc rf q38 => ?_)
        clear h12
        exact makes_load ((hM.adds hC).loads_W32 (by (repeat (first | exact .head _ | apply List.Mem.tail)); done) (on_of rfl) (by first | omega | (simp only [Len] at *; omega) | (simp; omega))) rfl q38 ⟨Adds.refl _, rfl⟩
      · refine showA_op 14 (by intro _ _ _; kernel_rfl) rfl rfl (fun c vals w hC hD => ?_)
        have h11 : vals 11 = W32 (gw R 4) := hD 11 rfl
        have h13 : vals 13 = W32 (gw R 5) := hD 13 rfl
        clear hD
        refine makes2 (x := .tmp 37) (X := W32 (gw R 4)) (y := .tmp 39) (Y := W32 (gw R 5)) ((by kernel_rfl : _ = vals 11).trans h11) ((by kernel_rfl : _ = vals 13).trans h13) (fun ρ rc rf q37 q39 => ?_)
        clear h11 h13
        refine makes_value (v := W32 ((gw R 4) &&& (gw R 5))) ?_ ⟨Adds.refl _, rfl⟩
        go_simp
        all_goals first | done | rfl | (rw [if_pos (by omega)]; refine congrArg (fun x => Result.ok (Next.value (Value.pointer (some ⟨_, x, none⟩))) _) ?_; omega) | (rw [wrapP_i64]; omega) | go_num | (simp; done) | (simp; omega) | (congr 1; first | rfl | (rw [wrapP_i64]; omega) | (congr 1; first | rfl | (simp; done) | (simp; omega) | (congr 2; omega) | go_num))
      · refine showA_op 15 (by intro _ _ _; kernel_rfl) rfl rfl (fun c vals w hC hD => ?_)
        clear hD
        refine makes1 (x := .tmp 11) (X := W32 (gw R 4)) (by kernel_rfl : _ = (W32 (gw R 4) : Value)) (fun ρ rc rf q11 => ?_)
        exact makes_move (.inl rfl) q11 ⟨Adds.refl _, rfl⟩
      · refine showA_op 16 (by intro _ _ _; kernel_rfl) rfl rfl (fun c vals w hC hD => ?_)
        have h15 : vals 15 = W32 (gw R 4) := hD 15 rfl
        clear hD
        refine makes1 (x := .tmp 41) (X := W32 (gw R 4)) ((by kernel_rfl : _ = vals 15).trans h15) (fun ρ rc rf q41 => ?_)
        clear h15
        refine makes_value (v := W32 (~~~(gw R 4))) ?_ ⟨Adds.refl _, rfl⟩
        go_simp
        all_goals first | done | rfl | (rw [if_pos (by omega)]; refine congrArg (fun x => Result.ok (Next.value (Value.pointer (some ⟨_, x, none⟩))) _) ?_; omega) | (rw [wrapP_i64]; omega) | go_num | (simp; done) | (simp; omega) | (congr 1; first | rfl | (rw [wrapP_i64]; omega) | (congr 1; first | rfl | (simp; done) | (simp; omega) | (congr 2; omega) | go_num))
      · refine showA_op 17 (by intro _ _ _; kernel_rfl) rfl rfl (fun c vals w hC hD => ?_)
        clear hD
        refine makes1 (x := .tmp 8) (X := Value.pointer (some ⟨g8, 0, none⟩)) (by kernel_rfl : _ = (Value.pointer (some ⟨g8, 0, none⟩) : Value)) (fun ρ rc rf q8 => ?_)
        refine makes_value (v := Value.pointer (some ⟨g8, 6, none⟩)) ?_ ⟨Adds.refl _, rfl⟩
        go_simp
        all_goals first | done | rfl | (rw [if_pos (by omega)]; refine congrArg (fun x => Result.ok (Next.value (Value.pointer (some ⟨_, x, none⟩))) _) ?_; omega) | (rw [wrapP_i64]; omega) | go_num | (simp; done) | (simp; omega) | (congr 1; first | rfl | (rw [wrapP_i64]; omega) | (congr 1; first | rfl | (simp; done) | (simp; omega) | (congr 2; omega) | go_num))
      · refine showA_op 18 (by intro _ _ _; kernel_rfl) rfl rfl (fun c vals w hC hD => ?_)
        have h17 : vals 17 = .pointer (some ⟨g8, 6, none⟩) := hD 17 rfl
        clear hD
        refine makes1 (x := .tmp 43) (X := Value.pointer (some ⟨g8, 6, none⟩)) ((by kernel_rfl : _ = vals 17).trans h17) (fun ρ rc rf q43 => ?_)
        clear h17
        exact makes_load ((hM.adds hC).loads_W32 (by (repeat (first | exact .head _ | apply List.Mem.tail)); done) (on_of rfl) (by first | omega | (simp only [Len] at *; omega) | (simp; omega))) rfl q43 ⟨Adds.refl _, rfl⟩
      · refine showA_op 19 (by intro _ _ _; kernel_rfl) rfl rfl (fun c vals w hC hD => ?_)
        have h16 : vals 16 = W32 (~~~(gw R 4)) := hD 16 rfl
        have h18 : vals 18 = W32 (gw R 6) := hD 18 rfl
        clear hD
        refine makes2 (x := .tmp 42) (X := W32 (~~~(gw R 4))) (y := .tmp 44) (Y := W32 (gw R 6)) ((by kernel_rfl : _ = vals 16).trans h16) ((by kernel_rfl : _ = vals 18).trans h18) (fun ρ rc rf q42 q44 => ?_)
        clear h16 h18
        refine makes_value (v := W32 ((~~~(gw R 4)) &&& (gw R 6))) ?_ ⟨Adds.refl _, rfl⟩
        go_simp
        all_goals first | done | rfl | (rw [if_pos (by omega)]; refine congrArg (fun x => Result.ok (Next.value (Value.pointer (some ⟨_, x, none⟩))) _) ?_; omega) | (rw [wrapP_i64]; omega) | go_num | (simp; done) | (simp; omega) | (congr 1; first | rfl | (rw [wrapP_i64]; omega) | (congr 1; first | rfl | (simp; done) | (simp; omega) | (congr 2; omega) | go_num))
      · refine showA_op 20 (by intro _ _ _; kernel_rfl) rfl rfl (fun c vals w hC hD => ?_)
        have h14 : vals 14 = W32 ((gw R 4) &&& (gw R 5)) := hD 14 rfl
        have h19 : vals 19 = W32 ((~~~(gw R 4)) &&& (gw R 6)) := hD 19 rfl
        clear hD
        refine makes2 (x := .tmp 40) (X := W32 ((gw R 4) &&& (gw R 5))) (y := .tmp 45) (Y := W32 ((~~~(gw R 4)) &&& (gw R 6))) ((by kernel_rfl : _ = vals 14).trans h14) ((by kernel_rfl : _ = vals 19).trans h19) (fun ρ rc rf q40 q45 => ?_)
        clear h14 h19
        refine makes_value (v := W32 (((gw R 4) &&& (gw R 5)) ^^^ ((~~~(gw R 4)) &&& (gw R 6)))) ?_ ⟨Adds.refl _, rfl⟩
        go_simp
        all_goals first | done | rfl | (rw [if_pos (by omega)]; refine congrArg (fun x => Result.ok (Next.value (Value.pointer (some ⟨_, x, none⟩))) _) ?_; omega) | (rw [wrapP_i64]; omega) | go_num | (simp; done) | (simp; omega) | (congr 1; first | rfl | (rw [wrapP_i64]; omega) | (congr 1; first | rfl | (simp; done) | (simp; omega) | (congr 2; omega) | go_num))
      · refine showA_op 21 (by intro _ _ _; kernel_rfl) rfl rfl (fun c vals w hC hD => ?_)
        have h10 : vals 10 = W32 ((gw R 7) + (((Sha.turned (gw R 4) 6) ^^^ (Sha.turned (gw R 4) 11)) ^^^ (Sha.turned (gw R 4) 25))) := hD 10 rfl
        have h20 : vals 20 = W32 (((gw R 4) &&& (gw R 5)) ^^^ ((~~~(gw R 4)) &&& (gw R 6))) := hD 20 rfl
        clear hD
        refine makes2 (x := .tmp 36) (X := W32 ((gw R 7) + (((Sha.turned (gw R 4) 6) ^^^ (Sha.turned (gw R 4) 11)) ^^^ (Sha.turned (gw R 4) 25)))) (y := .tmp 46) (Y := W32 (((gw R 4) &&& (gw R 5)) ^^^ ((~~~(gw R 4)) &&& (gw R 6)))) ((by kernel_rfl : _ = vals 10).trans h10) ((by kernel_rfl : _ = vals 20).trans h20) (fun ρ rc rf q36 q46 => ?_)
        clear h10 h20
        refine makes_value (v := W32 (((gw R 7) + (((Sha.turned (gw R 4) 6) ^^^ (Sha.turned (gw R 4) 11)) ^^^ (Sha.turned (gw R 4) 25))) + (((gw R 4) &&& (gw R 5)) ^^^ ((~~~(gw R 4)) &&& (gw R 6))))) ?_ ⟨Adds.refl _, rfl⟩
        go_simp
        all_goals first | done | rfl | (rw [if_pos (by omega)]; refine congrArg (fun x => Result.ok (Next.value (Value.pointer (some ⟨_, x, none⟩))) _) ?_; omega) | (rw [wrapP_i64]; omega) | go_num | (simp; done) | (simp; omega) | (congr 1; first | rfl | (rw [wrapP_i64]; omega) | (congr 1; first | rfl | (simp; done) | (simp; omega) | (congr 2; omega) | go_num))
      · refine showA_op 22 (by intro _ _ _; kernel_rfl) rfl rfl (fun c vals w hC hD => ?_)
        clear hD
        refine makes1 (x := .tmp 9) (X := Value.int .i64 ((t : Nat) : Int)) (by kernel_rfl : _ = (Value.int .i64 ((t : Nat) : Int) : Value)) (fun ρ rc rf q9 => ?_)
        exact makes_move (.inl rfl) q9 ⟨Adds.refl _, rfl⟩
      · refine showA_op 23 (by intro _ _ _; kernel_rfl) rfl rfl (fun c vals w hC hD => ?_)
        have h22 : vals 22 = .int .i64 ((t : Nat) : Int) := hD 22 rfl
        clear hD
        refine makes2 (x := .tmp 5) (X := Value.pointer (some ⟨g5, 0, none⟩)) (y := .tmp 48) (Y := Value.int .i64 ((t : Nat) : Int)) (by kernel_rfl : _ = (Value.pointer (some ⟨g5, 0, none⟩) : Value)) ((by kernel_rfl : _ = vals 22).trans h22) (fun ρ rc rf q5 q48 => ?_)
        clear h22
        refine makes_value (v := Value.pointer (some ⟨g5, t, none⟩)) ?_ ⟨Adds.refl _, rfl⟩
        go_simp
        all_goals first | done | rfl | (rw [if_pos (by omega)]; refine congrArg (fun x => Result.ok (Next.value (Value.pointer (some ⟨_, x, none⟩))) _) ?_; omega) | (rw [wrapP_i64]; omega) | go_num | (simp; done) | (simp; omega) | (congr 1; first | rfl | (rw [wrapP_i64]; omega) | (congr 1; first | rfl | (simp; done) | (simp; omega) | (congr 2; omega) | go_num))
      · refine showA_op 24 (by intro _ _ _; kernel_rfl) rfl rfl (fun c vals w hC hD => ?_)
        have h23 : vals 23 = .pointer (some ⟨g5, t, none⟩) := hD 23 rfl
        clear hD
        refine makes1 (x := .tmp 49) (X := Value.pointer (some ⟨g5, t, none⟩)) ((by kernel_rfl : _ = vals 23).trans h23) (fun ρ rc rf q49 => ?_)
        clear h23
        exact makes_load ((hM.adds hC).loads_W32 (by (repeat (first | exact .head _ | apply List.Mem.tail)); done) (on_of rfl) (by first | omega | (simp only [Len] at *; omega) | (simp; omega))) rfl q49 ⟨Adds.refl _, rfl⟩
      · refine showA_op 25 (by intro _ _ _; kernel_rfl) rfl rfl (fun c vals w hC hD => ?_)
        have h21 : vals 21 = W32 (((gw R 7) + (((Sha.turned (gw R 4) 6) ^^^ (Sha.turned (gw R 4) 11)) ^^^ (Sha.turned (gw R 4) 25))) + (((gw R 4) &&& (gw R 5)) ^^^ ((~~~(gw R 4)) &&& (gw R 6)))) := hD 21 rfl
        have h24 : vals 24 = W32 (gw KS t) := hD 24 rfl
        clear hD
        refine makes2 (x := .tmp 47) (X := W32 (((gw R 7) + (((Sha.turned (gw R 4) 6) ^^^ (Sha.turned (gw R 4) 11)) ^^^ (Sha.turned (gw R 4) 25))) + (((gw R 4) &&& (gw R 5)) ^^^ ((~~~(gw R 4)) &&& (gw R 6))))) (y := .tmp 50) (Y := W32 (gw KS t)) ((by kernel_rfl : _ = vals 21).trans h21) ((by kernel_rfl : _ = vals 24).trans h24) (fun ρ rc rf q47 q50 => ?_)
        clear h21 h24
        refine makes_value (v := W32 ((((gw R 7) + (((Sha.turned (gw R 4) 6) ^^^ (Sha.turned (gw R 4) 11)) ^^^ (Sha.turned (gw R 4) 25))) + (((gw R 4) &&& (gw R 5)) ^^^ ((~~~(gw R 4)) &&& (gw R 6)))) + (gw KS t))) ?_ ⟨Adds.refl _, rfl⟩
        go_simp
        all_goals first | done | rfl | (rw [if_pos (by omega)]; refine congrArg (fun x => Result.ok (Next.value (Value.pointer (some ⟨_, x, none⟩))) _) ?_; omega) | (rw [wrapP_i64]; omega) | go_num | (simp; done) | (simp; omega) | (congr 1; first | rfl | (rw [wrapP_i64]; omega) | (congr 1; first | rfl | (simp; done) | (simp; omega) | (congr 2; omega) | go_num))
      · refine showA_op 26 (by intro _ _ _; kernel_rfl) rfl rfl (fun c vals w hC hD => ?_)
        clear hD
        refine makes1 (x := .tmp 9) (X := Value.int .i64 ((t : Nat) : Int)) (by kernel_rfl : _ = (Value.int .i64 ((t : Nat) : Int) : Value)) (fun ρ rc rf q9 => ?_)
        exact makes_move (.inl rfl) q9 ⟨Adds.refl _, rfl⟩
      · refine showA_op 27 (by intro _ _ _; kernel_rfl) rfl rfl (fun c vals w hC hD => ?_)
        have h26 : vals 26 = .int .i64 ((t : Nat) : Int) := hD 26 rfl
        clear hD
        refine makes2 (x := .tmp 7) (X := Value.pointer (some ⟨g7, 0, none⟩)) (y := .tmp 52) (Y := Value.int .i64 ((t : Nat) : Int)) (by kernel_rfl : _ = (Value.pointer (some ⟨g7, 0, none⟩) : Value)) ((by kernel_rfl : _ = vals 26).trans h26) (fun ρ rc rf q7 q52 => ?_)
        clear h26
        refine makes_value (v := Value.pointer (some ⟨g7, t, none⟩)) ?_ ⟨Adds.refl _, rfl⟩
        go_simp
        all_goals first | done | rfl | (rw [if_pos (by omega)]; refine congrArg (fun x => Result.ok (Next.value (Value.pointer (some ⟨_, x, none⟩))) _) ?_; omega) | (rw [wrapP_i64]; omega) | go_num | (simp; done) | (simp; omega) | (congr 1; first | rfl | (rw [wrapP_i64]; omega) | (congr 1; first | rfl | (simp; done) | (simp; omega) | (congr 2; omega) | go_num))
      · refine showA_op 28 (by intro _ _ _; kernel_rfl) rfl rfl (fun c vals w hC hD => ?_)
        have h27 : vals 27 = .pointer (some ⟨g7, t, none⟩) := hD 27 rfl
        clear hD
        refine makes1 (x := .tmp 53) (X := Value.pointer (some ⟨g7, t, none⟩)) ((by kernel_rfl : _ = vals 27).trans h27) (fun ρ rc rf q53 => ?_)
        clear h27
        exact makes_load ((hM.adds hC).loads_W32 (by (repeat (first | exact .head _ | apply List.Mem.tail)); done) (on_of rfl) (by first | omega | (simp only [Len] at *; omega) | (simp; omega))) rfl q53 ⟨Adds.refl _, rfl⟩
      · refine showA_op 29 (by intro _ _ _; kernel_rfl) rfl rfl (fun c vals w hC hD => ?_)
        have h25 : vals 25 = W32 ((((gw R 7) + (((Sha.turned (gw R 4) 6) ^^^ (Sha.turned (gw R 4) 11)) ^^^ (Sha.turned (gw R 4) 25))) + (((gw R 4) &&& (gw R 5)) ^^^ ((~~~(gw R 4)) &&& (gw R 6)))) + (gw KS t)) := hD 25 rfl
        have h28 : vals 28 = W32 (gw W t) := hD 28 rfl
        clear hD
        refine makes2 (x := .tmp 51) (X := W32 ((((gw R 7) + (((Sha.turned (gw R 4) 6) ^^^ (Sha.turned (gw R 4) 11)) ^^^ (Sha.turned (gw R 4) 25))) + (((gw R 4) &&& (gw R 5)) ^^^ ((~~~(gw R 4)) &&& (gw R 6)))) + (gw KS t))) (y := .tmp 54) (Y := W32 (gw W t)) ((by kernel_rfl : _ = vals 25).trans h25) ((by kernel_rfl : _ = vals 28).trans h28) (fun ρ rc rf q51 q54 => ?_)
        clear h25 h28
        refine makes_value (v := W32 (((((gw R 7) + (((Sha.turned (gw R 4) 6) ^^^ (Sha.turned (gw R 4) 11)) ^^^ (Sha.turned (gw R 4) 25))) + (((gw R 4) &&& (gw R 5)) ^^^ ((~~~(gw R 4)) &&& (gw R 6)))) + (gw KS t)) + (gw W t))) ?_ ⟨Adds.refl _, rfl⟩
        go_simp
        all_goals first | done | rfl | (rw [if_pos (by omega)]; refine congrArg (fun x => Result.ok (Next.value (Value.pointer (some ⟨_, x, none⟩))) _) ?_; omega) | (rw [wrapP_i64]; omega) | go_num | (simp; done) | (simp; omega) | (congr 1; first | rfl | (rw [wrapP_i64]; omega) | (congr 1; first | rfl | (simp; done) | (simp; omega) | (congr 2; omega) | go_num))
      · refine showA_op 30 (by intro _ _ _; kernel_rfl) rfl rfl (fun c vals w hC hD => ?_)
        have h29 : vals 29 = W32 (((((gw R 7) + (((Sha.turned (gw R 4) 6) ^^^ (Sha.turned (gw R 4) 11)) ^^^ (Sha.turned (gw R 4) 25))) + (((gw R 4) &&& (gw R 5)) ^^^ ((~~~(gw R 4)) &&& (gw R 6)))) + (gw KS t)) + (gw W t)) := hD 29 rfl
        clear hD
        refine makes1 (x := .tmp 55) (X := W32 (((((gw R 7) + (((Sha.turned (gw R 4) 6) ^^^ (Sha.turned (gw R 4) 11)) ^^^ (Sha.turned (gw R 4) 25))) + (((gw R 4) &&& (gw R 5)) ^^^ ((~~~(gw R 4)) &&& (gw R 6)))) + (gw KS t)) + (gw W t))) ((by kernel_rfl : _ = vals 29).trans h29) (fun ρ rc rf q55 => ?_)
        clear h29
        exact makes_move (.inr rfl) q55 ⟨Adds.refl _, rfl⟩
      intro vals w' hC hΦ hne
      have h30 : vals 30 = W32 (Sha.one R (gw KS t) (gw W t)) := hΦ 30 (by decide)
      clear hΦ hne
      simp only [List.getD_eq_getElem?_getD, List.getElem?_cons_zero, List.getElem?_cons_succ, Option.getD_some, List.drop_succ_cons, List.drop_zero]
      simp only [h30]
      clear h30
      try simp only [tuple_undef]
      replace hM := hM.adds hC
      clear hC
      go_wp2_with (first | go_skip | ((first | (with_reducible refine gL_load ?_) | ((with_reducible refine gG_load ?_ ?_); (exact wanted_of rfl rfl rfl rfl rfl))); refine ⟨_, _, rfl, (by (first | (assumption) | (exact hM.loads_B8 (by (repeat (first | exact .head _ | apply List.Mem.tail)); done) (on_of rfl) (by first | omega | (simp only [Len] at *; omega) | (simp; omega))) | (exact hM.loads_all (by (repeat (first | exact .head _ | apply List.Mem.tail)); done) (ag_of rfl) (by first | assumption | exact Len.map (by assumption) _ | rfl | exact Len.map (by rfl) _ | exact Len.of (by simp; done))) | (exact hM.loads_one (by (repeat (first | exact .head _ | apply List.Mem.tail)); done) (on_of rfl) rfl) | (exact hM.loads_W32 (by (repeat (first | exact .head _ | apply List.Mem.tail)); done) (on_of rfl) (by first | omega | (simp only [Len] at *; omega) | (simp; omega))) | (exact loads_cell (by assumption) (on_of rfl)))), ?_⟩) | ((with_reducible refine gL_store hM ?_); refine ⟨_, _, _, rfl, rfl, (by (first | (exact hM.stores_B8 (by first | exact (rfl : B8 _ = B8 _) | exact lit8 _ (by decide)) (by (repeat (first | exact .here _ _ _ | apply Has.there)); done) (on_of rfl) (by first | omega | (simp only [Len] at *; omega) | (simp; omega))) | (exact hM.stores_all (by (repeat (first | exact .here _ _ _ | apply Has.there)); done) (ag_of rfl) (by first | assumption | exact Len.map (by assumption) _ | rfl | exact Len.map (by rfl) _ | exact Len.of (by simp; done)) (by first | assumption | exact Len.map (by assumption) _ | rfl | exact Len.map (by rfl) _ | exact Len.of (by simp; done)) (by first | exact B8_one | exact W32_one | exact one_of_all rfl)) | (exact hM.stores_W32 rfl (by (repeat (first | exact .here _ _ _ | apply Has.there)); done) (on_of rfl) (by first | omega | (simp only [Len] at *; omega) | (simp; omega))) | (exact hM.stores_one (by (repeat (first | exact .here _ _ _ | apply Has.there)); done) (on_of rfl) (by first | omega | (simp only [Len] at *; omega) | (simp; omega)) rfl rfl))), ?_⟩; intro _ hM2; clear hM; have hM := hM2; clear hM2) | ((with_reducible refine gL_alloc hM ?_); refine ⟨_, _, (zr_of rfl), ?_⟩; intro _ _ hM2; clear hM; have hM := hM2; clear hM2) | ((with_reducible refine gL_box hM ?_); refine ⟨_, _, _, rfl, rfl, (by first | assumption | exact Len.map (by assumption) _ | rfl | exact Len.map (by rfl) _ | exact Len.of (by simp; done)), ?_⟩; intro _ _ hM2; clear hM; have hM := hM2; clear hM2) | ((with_reducible refine gL_build0 ?_); refine ⟨_, _, _, _, _, _, (zr_of rfl), (ua_of rfl), (ag_of rfl), (el_of rfl), ?_⟩) | ((with_reducible refine gL_buildBytes hM ?_); refine ⟨_, _, (us_of rfl), (el_of rfl), (by decide), (by decide), rfl, (by (repeat (first | exact EvB.nil | apply EvB.cons rfl (by first | exact (rfl : B8 _ = B8 _) | exact lit8 _ (by decide)))); done), ?_⟩; intro _ _ hM2; clear hM; have hM := hM2; clear hM2) | ((with_reducible refine gL_append_B hM ?_); refine ⟨_, _, _, _, _, _, _, _, _, _, rfl, rfl, (by first | exact (rfl : Value.slice (some ⟨_, 0, none⟩) _ _ = sl (some _) _ _) | exact (rfl : Value.slice none _ _ = sl none _ _) | rfl), (us_of rfl), (el_of rfl), (by first | exact hM.src (by (repeat (first | exact .head _ | apply List.Mem.tail)); done) | exact (hM.bytes0 (by assumption)).src), (fun _ _ => by (repeat (first | exact .here _ _ _ | apply Swap.there)); done), (by first | assumption | exact Len.map (by assumption) _ | rfl | exact Len.map (by rfl) _ | exact Len.of (by simp; done)), (by first | assumption | exact Len.map (by assumption) _ | rfl | exact Len.map (by rfl) _ | exact Len.of (by simp; done)), (by first | assumption | (simp [maxLen]; done) | omega | (simp [maxLen]; omega)), (by first | omega | (simp only [Len] at *; omega) | (simp; omega)), ?_⟩; intro _ _ _ hM2 _ _; clear hM; have hM := hM2; clear hM2) | ((first | (with_reducible refine gL_field ?_) | ((with_reducible refine gG_field ?_ ?_); (exact wanted_of rfl rfl rfl rfl rfl))); refine ⟨_, _, rfl, (by (first | (exact field_one (fb_of rfl) rfl) | (exact field_agg (fa_of rfl) rfl))), ?_⟩))
      rename_i w'7 _ _
      try simp only [Act.put, List.setIfInBounds_toArray, List.set_cons_succ, List.set_cons_zero]
      refine wp_region_tail 25 (by decide) (fun c vals => ⟨#[c 0, c 1, c 2, c 3, c 4, c 5, c 6, c 7, (Value.pointer (some ⟨g8, 0, none⟩) : Value), c 9, (W32 (gw R 0) : Value), c 11, (W32 (Sha.one R (gw KS t) (gw W t)) : Value), vals 24, c 14, c 15, c 16, c 17, c 18, c 19, c 20, c 21, c 22, c 23, c 24, c 25, c 26, c 27, c 28, c 29, c 30, c 31, c 32, c 33, c 34, c 35, c 36, c 37, c 38, c 39, c 40, c 41, c 42, c 43, c 44, c 45, c 46, c 47, c 48, c 49, c 50, c 51, c 52, c 53, c 54, c 55, vals 0, vals 1, vals 2, vals 3, vals 4, vals 5, vals 6, vals 7, vals 8, vals 9, vals 10, vals 11, vals 12, vals 13, vals 14, vals 15, vals 16, vals 17, vals 18, vals 19, vals 20, vals 21, vals 22, vals 23, c 80, c 81, c 82, c 83, c 84, c 85, c 86, c 87, c 88, c 89, c 90, c 91, c 92, c 93, c 94, c 95, c 96, c 97, c 98, c 99, c 100, c 101, c 102, c 103, c 104, c 105, c 106, c 107, c 108, c 109, c 110, c 111, c 112], []⟩) (fun t => [_, _, _, _, _, _, _, _, undef, _, undef, _, undef, undef, _, _, _, _, _, _, _, _, _, _, _, _, _, _, _, _, _, _, _, _, _, _, _, _, _, _, _, _, _, _, _, _, _, _, _, _, _, _, _, _, _, _, undef, undef, undef, undef, undef, undef, undef, undef, undef, undef, undef, undef, undef, undef, undef, undef, undef, undef, undef, undef, undef, undef, undef, undef, _, _, _, _, _, _, _, _, _, _, _, _, _, _, _, _, _, _, _, _, _, _, _, _, _, _, _, _, _, _, _, _, _].getD t undef) (fun i => [_, _, _, _, _, _, _, _, _, _, _, _, _, _, _, _, _, _, _, _, _, _, _, _, _].getD i undef) (by kernel_rfl)
        [[], [0], [], [0, 1, 2], [0, 1, 2, 3], [], [0, 1, 2, 3, 5], [0, 1, 2, 3, 4, 5, 6], [], [], [9], [8, 9, 10], [], [], [13], [12, 13, 14], [8, 9, 10, 11, 12, 13, 14, 15], [], [17], [], [19], [17, 18, 19, 20], [8, 9, 10, 11, 12, 13, 14, 15, 16, 17, 18, 19, 20, 21], [0, 1, 2, 3, 4, 5, 6, 7, 8, 9, 10, 11, 12, 13, 14, 15, 16, 17, 18, 19, 20, 21, 22], [0, 1, 2, 3, 4, 5, 6, 7, 8, 9, 10, 11, 12, 13, 14, 15, 16, 17, 18, 19, 20, 21, 22, 23]] (by kernel_rfl) (by kernel_rfl) (fun _ => True) trivial
        [fun x _ => x = (W32 (gw R 0) : Value),
         fun x _ => x = (W32 (Sha.turned (gw R 0) 2) : Value),
         fun x _ => x = (W32 (gw R 0) : Value),
         fun x _ => x = (W32 (Sha.turned (gw R 0) 13) : Value),
         fun x _ => x = (W32 ((Sha.turned (gw R 0) 2) ^^^ (Sha.turned (gw R 0) 13)) : Value),
         fun x _ => x = (W32 (gw R 0) : Value),
         fun x _ => x = (W32 (Sha.turned (gw R 0) 22) : Value),
         fun x _ => x = (W32 (((Sha.turned (gw R 0) 2) ^^^ (Sha.turned (gw R 0) 13)) ^^^ (Sha.turned (gw R 0) 22)) : Value),
         fun x _ => x = (W32 (gw R 0) : Value),
         fun x _ => x = (Value.pointer (some ⟨g8, 1, none⟩) : Value),
         fun x _ => x = (W32 (gw R 1) : Value),
         fun x _ => x = (W32 ((gw R 0) &&& (gw R 1)) : Value),
         fun x _ => x = (W32 (gw R 0) : Value),
         fun x _ => x = (Value.pointer (some ⟨g8, 2, none⟩) : Value),
         fun x _ => x = (W32 (gw R 2) : Value),
         fun x _ => x = (W32 ((gw R 0) &&& (gw R 2)) : Value),
         fun x _ => x = (W32 (((gw R 0) &&& (gw R 1)) ^^^ ((gw R 0) &&& (gw R 2))) : Value),
         fun x _ => x = (Value.pointer (some ⟨g8, 1, none⟩) : Value),
         fun x _ => x = (W32 (gw R 1) : Value),
         fun x _ => x = (Value.pointer (some ⟨g8, 2, none⟩) : Value),
         fun x _ => x = (W32 (gw R 2) : Value),
         fun x _ => x = (W32 ((gw R 1) &&& (gw R 2)) : Value),
         fun x _ => x = (W32 ((((gw R 0) &&& (gw R 1)) ^^^ ((gw R 0) &&& (gw R 2))) ^^^ ((gw R 1) &&& (gw R 2))) : Value),
         fun x _ => x = (W32 ((((Sha.turned (gw R 0) 2) ^^^ (Sha.turned (gw R 0) 13)) ^^^ (Sha.turned (gw R 0) 22)) + ((((gw R 0) &&& (gw R 1)) ^^^ ((gw R 0) &&& (gw R 2))) ^^^ ((gw R 1) &&& (gw R 2)))) : Value),
         fun x _ => x = (W32 (Sha.two R) : Value)]
        ⟨fun _ _ _ h _ => h, fun _ _ _ h _ => h, fun _ _ _ h _ => h, fun _ _ _ h _ => h, fun _ _ _ h _ => h, fun _ _ _ h _ => h, fun _ _ _ h _ => h, fun _ _ _ h _ => h, fun _ _ _ h _ => h, fun _ _ _ h _ => h, fun _ _ _ h _ => h, fun _ _ _ h _ => h, fun _ _ _ h _ => h, fun _ _ _ h _ => h, fun _ _ _ h _ => h, fun _ _ _ h _ => h, fun _ _ _ h _ => h, fun _ _ _ h _ => h, fun _ _ _ h _ => h, fun _ _ _ h _ => h, fun _ _ _ h _ => h, fun _ _ _ h _ => h, fun _ _ _ h _ => h, fun _ _ _ h _ => h, fun _ _ _ h _ => h, trivial⟩ []
        ⟨?_, ?_, ?_, ?_, ?_, ?_, ?_, ?_, ?_, ?_, ?_, ?_, ?_, ?_, ?_, ?_, ?_, ?_, ?_, ?_, ?_, ?_, ?_, ?_, ?_, trivial⟩ ?_
      · refine showA_op 0 (by intro _ _ _; kernel_rfl) rfl rfl (fun c vals w hC hD => ?_)
        clear hD
        refine makes1 (x := .tmp 10) (X := W32 (gw R 0)) (by kernel_rfl : _ = (W32 (gw R 0) : Value)) (fun ρ rc rf q10 => ?_)
        exact makes_move (.inl rfl) q10 ⟨Adds.refl _, rfl⟩
      · refine showA_op 1 (by intro _ _ _; kernel_rfl) rfl rfl (fun c vals w hC hD => ?_)
        have h0 : vals 0 = W32 (gw R 0) := hD 0 rfl
        clear hD
        refine makes1 (x := .tmp 56) (X := W32 (gw R 0)) ((by kernel_rfl : _ = vals 0).trans h0) (fun ρ rc rf q56 => ?_)
        clear h0
        refine makes_call (ref02_turned _ (gw R 0) 2 (by decide)) ?_ (by rintro e w' ⟨rfl, hb⟩; exact ⟨_, rfl, hb, rfl⟩)
        go_simp
      · refine showA_op 2 (by intro _ _ _; kernel_rfl) rfl rfl (fun c vals w hC hD => ?_)
        clear hD
        refine makes1 (x := .tmp 10) (X := W32 (gw R 0)) (by kernel_rfl : _ = (W32 (gw R 0) : Value)) (fun ρ rc rf q10 => ?_)
        exact makes_move (.inl rfl) q10 ⟨Adds.refl _, rfl⟩
      · refine showA_op 3 (by intro _ _ _; kernel_rfl) rfl rfl (fun c vals w hC hD => ?_)
        have h2 : vals 2 = W32 (gw R 0) := hD 2 rfl
        clear hD
        refine makes1 (x := .tmp 58) (X := W32 (gw R 0)) ((by kernel_rfl : _ = vals 2).trans h2) (fun ρ rc rf q58 => ?_)
        clear h2
        refine makes_call (ref02_turned _ (gw R 0) 13 (by decide)) ?_ (by rintro e w' ⟨rfl, hb⟩; exact ⟨_, rfl, hb, rfl⟩)
        go_simp
      · refine showA_op 4 (by intro _ _ _; kernel_rfl) rfl rfl (fun c vals w hC hD => ?_)
        have h1 : vals 1 = W32 (Sha.turned (gw R 0) 2) := hD 1 rfl
        have h3 : vals 3 = W32 (Sha.turned (gw R 0) 13) := hD 3 rfl
        clear hD
        refine makes2 (x := .tmp 57) (X := W32 (Sha.turned (gw R 0) 2)) (y := .tmp 59) (Y := W32 (Sha.turned (gw R 0) 13)) ((by kernel_rfl : _ = vals 1).trans h1) ((by kernel_rfl : _ = vals 3).trans h3) (fun ρ rc rf q57 q59 => ?_)
        clear h1 h3
        refine makes_value (v := W32 ((Sha.turned (gw R 0) 2) ^^^ (Sha.turned (gw R 0) 13))) ?_ ⟨Adds.refl _, rfl⟩
        go_simp
        all_goals first | done | rfl | (rw [if_pos (by omega)]; refine congrArg (fun x => Result.ok (Next.value (Value.pointer (some ⟨_, x, none⟩))) _) ?_; omega) | (rw [wrapP_i64]; omega) | go_num | (simp; done) | (simp; omega) | (congr 1; first | rfl | (rw [wrapP_i64]; omega) | (congr 1; first | rfl | (simp; done) | (simp; omega) | (congr 2; omega) | go_num))
      · refine showA_op 5 (by intro _ _ _; kernel_rfl) rfl rfl (fun c vals w hC hD => ?_)
        clear hD
        refine makes1 (x := .tmp 10) (X := W32 (gw R 0)) (by kernel_rfl : _ = (W32 (gw R 0) : Value)) (fun ρ rc rf q10 => ?_)
        exact makes_move (.inl rfl) q10 ⟨Adds.refl _, rfl⟩
      · refine showA_op 6 (by intro _ _ _; kernel_rfl) rfl rfl (fun c vals w hC hD => ?_)
        have h5 : vals 5 = W32 (gw R 0) := hD 5 rfl
        clear hD
        refine makes1 (x := .tmp 61) (X := W32 (gw R 0)) ((by kernel_rfl : _ = vals 5).trans h5) (fun ρ rc rf q61 => ?_)
        clear h5
        refine makes_call (ref02_turned _ (gw R 0) 22 (by decide)) ?_ (by rintro e w' ⟨rfl, hb⟩; exact ⟨_, rfl, hb, rfl⟩)
        go_simp
      · refine showA_op 7 (by intro _ _ _; kernel_rfl) rfl rfl (fun c vals w hC hD => ?_)
        have h4 : vals 4 = W32 ((Sha.turned (gw R 0) 2) ^^^ (Sha.turned (gw R 0) 13)) := hD 4 rfl
        have h6 : vals 6 = W32 (Sha.turned (gw R 0) 22) := hD 6 rfl
        clear hD
        refine makes2 (x := .tmp 60) (X := W32 ((Sha.turned (gw R 0) 2) ^^^ (Sha.turned (gw R 0) 13))) (y := .tmp 62) (Y := W32 (Sha.turned (gw R 0) 22)) ((by kernel_rfl : _ = vals 4).trans h4) ((by kernel_rfl : _ = vals 6).trans h6) (fun ρ rc rf q60 q62 => ?_)
        clear h4 h6
        refine makes_value (v := W32 (((Sha.turned (gw R 0) 2) ^^^ (Sha.turned (gw R 0) 13)) ^^^ (Sha.turned (gw R 0) 22))) ?_ ⟨Adds.refl _, rfl⟩
        go_simp
        all_goals first | done | rfl | (rw [if_pos (by omega)]; refine congrArg (fun x => Result.ok (Next.value (Value.pointer (some ⟨_, x, none⟩))) _) ?_; omega) | (rw [wrapP_i64]; omega) | go_num | (simp; done) | (simp; omega) | (congr 1; first | rfl | (rw [wrapP_i64]; omega) | (congr 1; first | rfl | (simp; done) | (simp; omega) | (congr 2; omega) | go_num))
      · refine showA_op 8 (by intro _ _ _; kernel_rfl) rfl rfl (fun c vals w hC hD => ?_)
        clear hD
        refine makes1 (x := .tmp 10) (X := W32 (gw R 0)) (by kernel_rfl : _ = (W32 (gw R 0) : Value)) (fun ρ rc rf q10 => ?_)
        exact makes_move (.inl rfl) q10 ⟨Adds.refl _, rfl⟩
      · refine showA_op 9 (by intro _ _ _; kernel_rfl) rfl rfl (fun c vals w hC hD => ?_)
        clear hD
        refine makes1 (x := .tmp 8) (X := Value.pointer (some ⟨g8, 0, none⟩)) (by kernel_rfl : _ = (Value.pointer (some ⟨g8, 0, none⟩) : Value)) (fun ρ rc rf q8 => ?_)
        refine makes_value (v := Value.pointer (some ⟨g8, 1, none⟩)) ?_ ⟨Adds.refl _, rfl⟩
        go_simp
        all_goals first | done | rfl | (rw [if_pos (by omega)]; refine congrArg (fun x => Result.ok (Next.value (Value.pointer (some ⟨_, x, none⟩))) _) ?_; omega) | (rw [wrapP_i64]; omega) | go_num | (simp; done) | (simp; omega) | (congr 1; first | rfl | (rw [wrapP_i64]; omega) | (congr 1; first | rfl | (simp; done) | (simp; omega) | (congr 2; omega) | go_num))
      · refine showA_op 10 (by intro _ _ _; kernel_rfl) rfl rfl (fun c vals w hC hD => ?_)
        have h9 : vals 9 = .pointer (some ⟨g8, 1, none⟩) := hD 9 rfl
        clear hD
        refine makes1 (x := .tmp 65) (X := Value.pointer (some ⟨g8, 1, none⟩)) ((by kernel_rfl : _ = vals 9).trans h9) (fun ρ rc rf q65 => ?_)
        clear h9
        exact makes_load ((hM.adds hC).loads_W32 (by (repeat (first | exact .head _ | apply List.Mem.tail)); done) (on_of rfl) (by first | omega | (simp only [Len] at *; omega) | (simp; omega))) rfl q65 ⟨Adds.refl _, rfl⟩
      · refine showA_op 11 (by intro _ _ _; kernel_rfl) rfl rfl (fun c vals w hC hD => ?_)
        have h8 : vals 8 = W32 (gw R 0) := hD 8 rfl
        have h10 : vals 10 = W32 (gw R 1) := hD 10 rfl
        clear hD
        refine makes2 (x := .tmp 64) (X := W32 (gw R 0)) (y := .tmp 66) (Y := W32 (gw R 1)) ((by kernel_rfl : _ = vals 8).trans h8) ((by kernel_rfl : _ = vals 10).trans h10) (fun ρ rc rf q64 q66 => ?_)
        clear h8 h10
        refine makes_value (v := W32 ((gw R 0) &&& (gw R 1))) ?_ ⟨Adds.refl _, rfl⟩
        go_simp
        all_goals first | done | rfl | (rw [if_pos (by omega)]; refine congrArg (fun x => Result.ok (Next.value (Value.pointer (some ⟨_, x, none⟩))) _) ?_; omega) | (rw [wrapP_i64]; omega) | go_num | (simp; done) | (simp; omega) | (congr 1; first | rfl | (rw [wrapP_i64]; omega) | (congr 1; first | rfl | (simp; done) | (simp; omega) | (congr 2; omega) | go_num))
      · refine showA_op 12 (by intro _ _ _; kernel_rfl) rfl rfl (fun c vals w hC hD => ?_)
        clear hD
        refine makes1 (x := .tmp 10) (X := W32 (gw R 0)) (by kernel_rfl : _ = (W32 (gw R 0) : Value)) (fun ρ rc rf q10 => ?_)
        exact makes_move (.inl rfl) q10 ⟨Adds.refl _, rfl⟩
      · refine showA_op 13 (by intro _ _ _; kernel_rfl) rfl rfl (fun c vals w hC hD => ?_)
        clear hD
        refine makes1 (x := .tmp 8) (X := Value.pointer (some ⟨g8, 0, none⟩)) (by kernel_rfl : _ = (Value.pointer (some ⟨g8, 0, none⟩) : Value)) (fun ρ rc rf q8 => ?_)
        refine makes_value (v := Value.pointer (some ⟨g8, 2, none⟩)) ?_ ⟨Adds.refl _, rfl⟩
        go_simp
        all_goals first | done | rfl | (rw [if_pos (by omega)]; refine congrArg (fun x => Result.ok (Next.value (Value.pointer (some ⟨_, x, none⟩))) _) ?_; omega) | (rw [wrapP_i64]; omega) | go_num | (simp; done) | (simp; omega) | (congr 1; first | rfl | (rw [wrapP_i64]; omega) | (congr 1; first | rfl | (simp; done) | (simp; omega) | (congr 2; omega) | go_num))
      · refine showA_op 14 (by intro _ _ _; kernel_rfl) rfl rfl (fun c vals w hC hD => ?_)
        have h13 : vals 13 = .pointer (some ⟨g8, 2, none⟩) := hD 13 rfl
        clear hD
        refine makes1 (x := .tmp 69) (X := Value.pointer (some ⟨g8, 2, none⟩)) ((by kernel_rfl : _ = vals 13).trans h13) (fun ρ rc rf q69 => ?_)
        clear h13
        exact makes_load ((hM.adds hC).loads_W32 (by (repeat (first | exact .head _ | apply List.Mem.tail)); done) (on_of rfl) (by first | omega | (simp only [Len] at *; omega) | (simp; omega))) rfl q69 ⟨Adds.refl _, rfl⟩
      · refine showA_op 15 (by intro _ _ _; kernel_rfl) rfl rfl (fun c vals w hC hD => ?_)
        have h12 : vals 12 = W32 (gw R 0) := hD 12 rfl
        have h14 : vals 14 = W32 (gw R 2) := hD 14 rfl
        clear hD
        refine makes2 (x := .tmp 68) (X := W32 (gw R 0)) (y := .tmp 70) (Y := W32 (gw R 2)) ((by kernel_rfl : _ = vals 12).trans h12) ((by kernel_rfl : _ = vals 14).trans h14) (fun ρ rc rf q68 q70 => ?_)
        clear h12 h14
        refine makes_value (v := W32 ((gw R 0) &&& (gw R 2))) ?_ ⟨Adds.refl _, rfl⟩
        go_simp
        all_goals first | done | rfl | (rw [if_pos (by omega)]; refine congrArg (fun x => Result.ok (Next.value (Value.pointer (some ⟨_, x, none⟩))) _) ?_; omega) | (rw [wrapP_i64]; omega) | go_num | (simp; done) | (simp; omega) | (congr 1; first | rfl | (rw [wrapP_i64]; omega) | (congr 1; first | rfl | (simp; done) | (simp; omega) | (congr 2; omega) | go_num))
      · refine showA_op 16 (by intro _ _ _; kernel_rfl) rfl rfl (fun c vals w hC hD => ?_)
        have h11 : vals 11 = W32 ((gw R 0) &&& (gw R 1)) := hD 11 rfl
        have h15 : vals 15 = W32 ((gw R 0) &&& (gw R 2)) := hD 15 rfl
        clear hD
        refine makes2 (x := .tmp 67) (X := W32 ((gw R 0) &&& (gw R 1))) (y := .tmp 71) (Y := W32 ((gw R 0) &&& (gw R 2))) ((by kernel_rfl : _ = vals 11).trans h11) ((by kernel_rfl : _ = vals 15).trans h15) (fun ρ rc rf q67 q71 => ?_)
        clear h11 h15
        refine makes_value (v := W32 (((gw R 0) &&& (gw R 1)) ^^^ ((gw R 0) &&& (gw R 2)))) ?_ ⟨Adds.refl _, rfl⟩
        go_simp
        all_goals first | done | rfl | (rw [if_pos (by omega)]; refine congrArg (fun x => Result.ok (Next.value (Value.pointer (some ⟨_, x, none⟩))) _) ?_; omega) | (rw [wrapP_i64]; omega) | go_num | (simp; done) | (simp; omega) | (congr 1; first | rfl | (rw [wrapP_i64]; omega) | (congr 1; first | rfl | (simp; done) | (simp; omega) | (congr 2; omega) | go_num))
      · refine showA_op 17 (by intro _ _ _; kernel_rfl) rfl rfl (fun c vals w hC hD => ?_)
        clear hD
        refine makes1 (x := .tmp 8) (X := Value.pointer (some ⟨g8, 0, none⟩)) (by kernel_rfl : _ = (Value.pointer (some ⟨g8, 0, none⟩) : Value)) (fun ρ rc rf q8 => ?_)
        refine makes_value (v := Value.pointer (some ⟨g8, 1, none⟩)) ?_ ⟨Adds.refl _, rfl⟩
        go_simp
        all_goals first | done | rfl | (rw [if_pos (by omega)]; refine congrArg (fun x => Result.ok (Next.value (Value.pointer (some ⟨_, x, none⟩))) _) ?_; omega) | (rw [wrapP_i64]; omega) | go_num | (simp; done) | (simp; omega) | (congr 1; first | rfl | (rw [wrapP_i64]; omega) | (congr 1; first | rfl | (simp; done) | (simp; omega) | (congr 2; omega) | go_num))
      · refine showA_op 18 (by intro _ _ _; kernel_rfl) rfl rfl (fun c vals w hC hD => ?_)
        have h17 : vals 17 = .pointer (some ⟨g8, 1, none⟩) := hD 17 rfl
        clear hD
        refine makes1 (x := .tmp 73) (X := Value.pointer (some ⟨g8, 1, none⟩)) ((by kernel_rfl : _ = vals 17).trans h17) (fun ρ rc rf q73 => ?_)
        clear h17
        exact makes_load ((hM.adds hC).loads_W32 (by (repeat (first | exact .head _ | apply List.Mem.tail)); done) (on_of rfl) (by first | omega | (simp only [Len] at *; omega) | (simp; omega))) rfl q73 ⟨Adds.refl _, rfl⟩
      · refine showA_op 19 (by intro _ _ _; kernel_rfl) rfl rfl (fun c vals w hC hD => ?_)
        clear hD
        refine makes1 (x := .tmp 8) (X := Value.pointer (some ⟨g8, 0, none⟩)) (by kernel_rfl : _ = (Value.pointer (some ⟨g8, 0, none⟩) : Value)) (fun ρ rc rf q8 => ?_)
        refine makes_value (v := Value.pointer (some ⟨g8, 2, none⟩)) ?_ ⟨Adds.refl _, rfl⟩
        go_simp
        all_goals first | done | rfl | (rw [if_pos (by omega)]; refine congrArg (fun x => Result.ok (Next.value (Value.pointer (some ⟨_, x, none⟩))) _) ?_; omega) | (rw [wrapP_i64]; omega) | go_num | (simp; done) | (simp; omega) | (congr 1; first | rfl | (rw [wrapP_i64]; omega) | (congr 1; first | rfl | (simp; done) | (simp; omega) | (congr 2; omega) | go_num))
      · refine showA_op 20 (by intro _ _ _; kernel_rfl) rfl rfl (fun c vals w hC hD => ?_)
        have h19 : vals 19 = .pointer (some ⟨g8, 2, none⟩) := hD 19 rfl
        clear hD
        refine makes1 (x := .tmp 75) (X := Value.pointer (some ⟨g8, 2, none⟩)) ((by kernel_rfl : _ = vals 19).trans h19) (fun ρ rc rf q75 => ?_)
        clear h19
        exact makes_load ((hM.adds hC).loads_W32 (by (repeat (first | exact .head _ | apply List.Mem.tail)); done) (on_of rfl) (by first | omega | (simp only [Len] at *; omega) | (simp; omega))) rfl q75 ⟨Adds.refl _, rfl⟩
      · refine showA_op 21 (by intro _ _ _; kernel_rfl) rfl rfl (fun c vals w hC hD => ?_)
        have h18 : vals 18 = W32 (gw R 1) := hD 18 rfl
        have h20 : vals 20 = W32 (gw R 2) := hD 20 rfl
        clear hD
        refine makes2 (x := .tmp 74) (X := W32 (gw R 1)) (y := .tmp 76) (Y := W32 (gw R 2)) ((by kernel_rfl : _ = vals 18).trans h18) ((by kernel_rfl : _ = vals 20).trans h20) (fun ρ rc rf q74 q76 => ?_)
        clear h18 h20
        refine makes_value (v := W32 ((gw R 1) &&& (gw R 2))) ?_ ⟨Adds.refl _, rfl⟩
        go_simp
        all_goals first | done | rfl | (rw [if_pos (by omega)]; refine congrArg (fun x => Result.ok (Next.value (Value.pointer (some ⟨_, x, none⟩))) _) ?_; omega) | (rw [wrapP_i64]; omega) | go_num | (simp; done) | (simp; omega) | (congr 1; first | rfl | (rw [wrapP_i64]; omega) | (congr 1; first | rfl | (simp; done) | (simp; omega) | (congr 2; omega) | go_num))
      · refine showA_op 22 (by intro _ _ _; kernel_rfl) rfl rfl (fun c vals w hC hD => ?_)
        have h16 : vals 16 = W32 (((gw R 0) &&& (gw R 1)) ^^^ ((gw R 0) &&& (gw R 2))) := hD 16 rfl
        have h21 : vals 21 = W32 ((gw R 1) &&& (gw R 2)) := hD 21 rfl
        clear hD
        refine makes2 (x := .tmp 72) (X := W32 (((gw R 0) &&& (gw R 1)) ^^^ ((gw R 0) &&& (gw R 2)))) (y := .tmp 77) (Y := W32 ((gw R 1) &&& (gw R 2))) ((by kernel_rfl : _ = vals 16).trans h16) ((by kernel_rfl : _ = vals 21).trans h21) (fun ρ rc rf q72 q77 => ?_)
        clear h16 h21
        refine makes_value (v := W32 ((((gw R 0) &&& (gw R 1)) ^^^ ((gw R 0) &&& (gw R 2))) ^^^ ((gw R 1) &&& (gw R 2)))) ?_ ⟨Adds.refl _, rfl⟩
        go_simp
        all_goals first | done | rfl | (rw [if_pos (by omega)]; refine congrArg (fun x => Result.ok (Next.value (Value.pointer (some ⟨_, x, none⟩))) _) ?_; omega) | (rw [wrapP_i64]; omega) | go_num | (simp; done) | (simp; omega) | (congr 1; first | rfl | (rw [wrapP_i64]; omega) | (congr 1; first | rfl | (simp; done) | (simp; omega) | (congr 2; omega) | go_num))
      · refine showA_op 23 (by intro _ _ _; kernel_rfl) rfl rfl (fun c vals w hC hD => ?_)
        have h7 : vals 7 = W32 (((Sha.turned (gw R 0) 2) ^^^ (Sha.turned (gw R 0) 13)) ^^^ (Sha.turned (gw R 0) 22)) := hD 7 rfl
        have h22 : vals 22 = W32 ((((gw R 0) &&& (gw R 1)) ^^^ ((gw R 0) &&& (gw R 2))) ^^^ ((gw R 1) &&& (gw R 2))) := hD 22 rfl
        clear hD
        refine makes2 (x := .tmp 63) (X := W32 (((Sha.turned (gw R 0) 2) ^^^ (Sha.turned (gw R 0) 13)) ^^^ (Sha.turned (gw R 0) 22))) (y := .tmp 78) (Y := W32 ((((gw R 0) &&& (gw R 1)) ^^^ ((gw R 0) &&& (gw R 2))) ^^^ ((gw R 1) &&& (gw R 2)))) ((by kernel_rfl : _ = vals 7).trans h7) ((by kernel_rfl : _ = vals 22).trans h22) (fun ρ rc rf q63 q78 => ?_)
        clear h7 h22
        refine makes_value (v := W32 ((((Sha.turned (gw R 0) 2) ^^^ (Sha.turned (gw R 0) 13)) ^^^ (Sha.turned (gw R 0) 22)) + ((((gw R 0) &&& (gw R 1)) ^^^ ((gw R 0) &&& (gw R 2))) ^^^ ((gw R 1) &&& (gw R 2))))) ?_ ⟨Adds.refl _, rfl⟩
        go_simp
        all_goals first | done | rfl | (rw [if_pos (by omega)]; refine congrArg (fun x => Result.ok (Next.value (Value.pointer (some ⟨_, x, none⟩))) _) ?_; omega) | (rw [wrapP_i64]; omega) | go_num | (simp; done) | (simp; omega) | (congr 1; first | rfl | (rw [wrapP_i64]; omega) | (congr 1; first | rfl | (simp; done) | (simp; omega) | (congr 2; omega) | go_num))
      · refine showA_op 24 (by intro _ _ _; kernel_rfl) rfl rfl (fun c vals w hC hD => ?_)
        have h23 : vals 23 = W32 ((((Sha.turned (gw R 0) 2) ^^^ (Sha.turned (gw R 0) 13)) ^^^ (Sha.turned (gw R 0) 22)) + ((((gw R 0) &&& (gw R 1)) ^^^ ((gw R 0) &&& (gw R 2))) ^^^ ((gw R 1) &&& (gw R 2)))) := hD 23 rfl
        clear hD
        refine makes1 (x := .tmp 79) (X := W32 ((((Sha.turned (gw R 0) 2) ^^^ (Sha.turned (gw R 0) 13)) ^^^ (Sha.turned (gw R 0) 22)) + ((((gw R 0) &&& (gw R 1)) ^^^ ((gw R 0) &&& (gw R 2))) ^^^ ((gw R 1) &&& (gw R 2))))) ((by kernel_rfl : _ = vals 23).trans h23) (fun ρ rc rf q79 => ?_)
        clear h23
        exact makes_move (.inr rfl) q79 ⟨Adds.refl _, rfl⟩
      intro vals w' hC hΦ hne
      have h24 : vals 24 = W32 (Sha.two R) := hΦ 24 (by decide)
      clear hΦ hne
      simp only [List.getD_eq_getElem?_getD, List.getElem?_cons_zero, List.getElem?_cons_succ, Option.getD_some, List.drop_succ_cons, List.drop_zero]
      simp only [h24]
      clear h24
      try simp only [tuple_undef]
      replace hM := hM.adds hC
      clear hC
      have HS' : ∀ _ : Unit, [W32 (Sha.one R (gw KS t) (gw W t) + Sha.two R), W32 (gw R 0), W32 (gw R 1), W32 (gw R 2), W32 (gw R 3 + Sha.one R (gw KS t) (gw W t)), W32 (gw R 4), W32 (gw R 5), W32 (gw R 6)] = (Sha.rnd s W (t + 1)).map W32 := fun _ => by rw [HS ()]; rfl
      go_wp2_with (first | go_skip | ((first | (with_reducible refine gL_load ?_) | ((with_reducible refine gG_load ?_ ?_); (exact wanted_of rfl rfl rfl rfl rfl))); refine ⟨_, _, rfl, (by (first | (assumption) | (exact hM.loads_B8 (by (repeat (first | exact .head _ | apply List.Mem.tail)); done) (on_of rfl) (by first | omega | (simp only [Len] at *; omega) | (simp; omega))) | (exact hM.loads_all (by (repeat (first | exact .head _ | apply List.Mem.tail)); done) (ag_of rfl) (by first | assumption | exact Len.map (by assumption) _ | rfl | exact Len.map (by rfl) _ | exact Len.of (by simp; done))) | (exact hM.loads_one (by (repeat (first | exact .head _ | apply List.Mem.tail)); done) (on_of rfl) rfl) | (exact hM.loads_W32 (by (repeat (first | exact .head _ | apply List.Mem.tail)); done) (on_of rfl) (by first | omega | (simp only [Len] at *; omega) | (simp; omega))) | (exact loads_cell (by assumption) (on_of rfl)))), ?_⟩) | ((with_reducible refine gL_store hM ?_); refine ⟨_, _, _, rfl, rfl, (by (first | (exact hM.stores_B8 (by first | exact (rfl : B8 _ = B8 _) | exact lit8 _ (by decide)) (by (repeat (first | exact .here _ _ _ | apply Has.there)); done) (on_of rfl) (by first | omega | (simp only [Len] at *; omega) | (simp; omega))) | (exact hM.stores_all (by (repeat (first | exact .here _ _ _ | apply Has.there)); done) (ag_of rfl) (by first | assumption | exact Len.map (by assumption) _ | rfl | exact Len.map (by rfl) _ | exact Len.of (by simp; done)) (by first | assumption | exact Len.map (by assumption) _ | rfl | exact Len.map (by rfl) _ | exact Len.of (by simp; done)) (by first | exact B8_one | exact W32_one | exact one_of_all rfl)) | (exact hM.stores_W32 rfl (by (repeat (first | exact .here _ _ _ | apply Has.there)); done) (on_of rfl) (by first | omega | (simp only [Len] at *; omega) | (simp; omega))) | (exact hM.stores_one (by (repeat (first | exact .here _ _ _ | apply Has.there)); done) (on_of rfl) (by first | omega | (simp only [Len] at *; omega) | (simp; omega)) rfl rfl))), ?_⟩; intro _ hM2; clear hM; have hM := hM2; clear hM2) | ((with_reducible refine gL_alloc hM ?_); refine ⟨_, _, (zr_of rfl), ?_⟩; intro _ _ hM2; clear hM; have hM := hM2; clear hM2) | ((with_reducible refine gL_box hM ?_); refine ⟨_, _, _, rfl, rfl, (by first | assumption | exact Len.map (by assumption) _ | rfl | exact Len.map (by rfl) _ | exact Len.of (by simp; done)), ?_⟩; intro _ _ hM2; clear hM; have hM := hM2; clear hM2) | ((with_reducible refine gL_build0 ?_); refine ⟨_, _, _, _, _, _, (zr_of rfl), (ua_of rfl), (ag_of rfl), (el_of rfl), ?_⟩) | ((with_reducible refine gL_buildBytes hM ?_); refine ⟨_, _, (us_of rfl), (el_of rfl), (by decide), (by decide), rfl, (by (repeat (first | exact EvB.nil | apply EvB.cons rfl (by first | exact (rfl : B8 _ = B8 _) | exact lit8 _ (by decide)))); done), ?_⟩; intro _ _ hM2; clear hM; have hM := hM2; clear hM2) | ((with_reducible refine gL_append_B hM ?_); refine ⟨_, _, _, _, _, _, _, _, _, _, rfl, rfl, (by first | exact (rfl : Value.slice (some ⟨_, 0, none⟩) _ _ = sl (some _) _ _) | exact (rfl : Value.slice none _ _ = sl none _ _) | rfl), (us_of rfl), (el_of rfl), (by first | exact hM.src (by (repeat (first | exact .head _ | apply List.Mem.tail)); done) | exact (hM.bytes0 (by assumption)).src), (fun _ _ => by (repeat (first | exact .here _ _ _ | apply Swap.there)); done), (by first | assumption | exact Len.map (by assumption) _ | rfl | exact Len.map (by rfl) _ | exact Len.of (by simp; done)), (by first | assumption | exact Len.map (by assumption) _ | rfl | exact Len.map (by rfl) _ | exact Len.of (by simp; done)), (by first | assumption | (simp [maxLen]; done) | omega | (simp [maxLen]; omega)), (by first | omega | (simp only [Len] at *; omega) | (simp; omega)), ?_⟩; intro _ _ _ hM2 _ _; clear hM; have hM := hM2; clear hM2) | ((first | (with_reducible refine gL_field ?_) | ((with_reducible refine gG_field ?_ ?_); (exact wanted_of rfl rfl rfl rfl rfl))); refine ⟨_, _, rfl, (by (first | (exact field_one (fb_of rfl) rfl) | (exact field_agg (fa_of rfl) rfl))), ?_⟩))
      rw [HS' ()] at hM
      go_roundw
      case rel => exact ⟨t + 1, by omega, by go_num, hM⟩
      case measure => simp [intOf]; omega
    · have : t = 64 := by omega
      subst this
      rw [show Value.int IntKind.i64 ((64 : Nat) : Int) = Value.int IntKind.i64 64 from rfl]
      generalize Sha.rnd s W 64 = R at *
      go_wp2_with (first | go_skip | ((first | (with_reducible refine gL_load ?_) | ((with_reducible refine gG_load ?_ ?_); (exact wanted_of rfl rfl rfl rfl rfl))); refine ⟨_, _, rfl, (by (first | (assumption) | (exact hM.loads_B8 (by (repeat (first | exact .head _ | apply List.Mem.tail)); done) (on_of rfl) (by first | omega | (simp only [Len] at *; omega) | (simp; omega))) | (exact hM.loads_all (by (repeat (first | exact .head _ | apply List.Mem.tail)); done) (ag_of rfl) (by first | assumption | exact Len.map (by assumption) _ | rfl | exact Len.map (by rfl) _ | exact Len.of (by simp; done))) | (exact hM.loads_one (by (repeat (first | exact .head _ | apply List.Mem.tail)); done) (on_of rfl) rfl) | (exact hM.loads_W32 (by (repeat (first | exact .head _ | apply List.Mem.tail)); done) (on_of rfl) (by first | omega | (simp only [Len] at *; omega) | (simp; omega))) | (exact loads_cell (by assumption) (on_of rfl)))), ?_⟩) | ((with_reducible refine gL_store hM ?_); refine ⟨_, _, _, rfl, rfl, (by (first | (exact hM.stores_B8 (by first | exact (rfl : B8 _ = B8 _) | exact lit8 _ (by decide)) (by (repeat (first | exact .here _ _ _ | apply Has.there)); done) (on_of rfl) (by first | omega | (simp only [Len] at *; omega) | (simp; omega))) | (exact hM.stores_all (by (repeat (first | exact .here _ _ _ | apply Has.there)); done) (ag_of rfl) (by first | assumption | exact Len.map (by assumption) _ | rfl | exact Len.map (by rfl) _ | exact Len.of (by simp; done)) (by first | assumption | exact Len.map (by assumption) _ | rfl | exact Len.map (by rfl) _ | exact Len.of (by simp; done)) (by first | exact B8_one | exact W32_one | exact one_of_all rfl)) | (exact hM.stores_W32 rfl (by (repeat (first | exact .here _ _ _ | apply Has.there)); done) (on_of rfl) (by first | omega | (simp only [Len] at *; omega) | (simp; omega))) | (exact hM.stores_one (by (repeat (first | exact .here _ _ _ | apply Has.there)); done) (on_of rfl) (by first | omega | (simp only [Len] at *; omega) | (simp; omega)) rfl rfl))), ?_⟩; intro _ hM2; clear hM; have hM := hM2; clear hM2) | ((with_reducible refine gL_alloc hM ?_); refine ⟨_, _, (zr_of rfl), ?_⟩; intro _ _ hM2; clear hM; have hM := hM2; clear hM2) | ((with_reducible refine gL_box hM ?_); refine ⟨_, _, _, rfl, rfl, (by first | assumption | exact Len.map (by assumption) _ | rfl | exact Len.map (by rfl) _ | exact Len.of (by simp; done)), ?_⟩; intro _ _ hM2; clear hM; have hM := hM2; clear hM2) | ((with_reducible refine gL_build0 ?_); refine ⟨_, _, _, _, _, _, (zr_of rfl), (ua_of rfl), (ag_of rfl), (el_of rfl), ?_⟩) | ((with_reducible refine gL_buildBytes hM ?_); refine ⟨_, _, (us_of rfl), (el_of rfl), (by decide), (by decide), rfl, (by (repeat (first | exact EvB.nil | apply EvB.cons rfl (by first | exact (rfl : B8 _ = B8 _) | exact lit8 _ (by decide)))); done), ?_⟩; intro _ _ hM2; clear hM; have hM := hM2; clear hM2) | ((with_reducible refine gL_append_B hM ?_); refine ⟨_, _, _, _, _, _, _, _, _, _, rfl, rfl, (by first | exact (rfl : Value.slice (some ⟨_, 0, none⟩) _ _ = sl (some _) _ _) | exact (rfl : Value.slice none _ _ = sl none _ _) | rfl), (us_of rfl), (el_of rfl), (by first | exact hM.src (by (repeat (first | exact .head _ | apply List.Mem.tail)); done) | exact (hM.bytes0 (by assumption)).src), (fun _ _ => by (repeat (first | exact .here _ _ _ | apply Swap.there)); done), (by first | assumption | exact Len.map (by assumption) _ | rfl | exact Len.map (by rfl) _ | exact Len.of (by simp; done)), (by first | assumption | exact Len.map (by assumption) _ | rfl | exact Len.map (by rfl) _ | exact Len.of (by simp; done)), (by first | assumption | (simp [maxLen]; done) | omega | (simp [maxLen]; omega)), (by first | omega | (simp only [Len] at *; omega) | (simp; omega)), ?_⟩; intro _ _ _ hM2 _ _; clear hM; have hM := hM2; clear hM2) | ((first | (with_reducible refine gL_field ?_) | ((with_reducible refine gG_field ?_ ?_); (exact wanted_of rfl rfl rfl rfl rfl))); refine ⟨_, _, rfl, (by (first | (exact field_one (fb_of rfl) rfl) | (exact field_agg (fa_of rfl) rfl))), ?_⟩))
      rw [show s.map W32 = ((Sha.plus s R).take 0 ++ s.drop 0).map W32 from rfl] at hM
      go_loopw [14] (fun i wr => ∃ t : Nat, t ≤ 8 ∧ i = .int .i64 t ∧ Mem [] w0 wr [⟨some g8, 111, R.map W32, 8⟩, ⟨some g7, 113, W.map W32, 64⟩, ⟨some g6, 111, (List.replicate 8 (0 : UInt32)).map W32, 8⟩, ⟨some g5, 113, KS.map W32, 64⟩, ⟨some g3, 111, ((Sha.plus s R).take t ++ s.drop t).map W32, 8⟩]) (fun i _ => 8 - (intOf i).toNat)
      case atStart => exact ⟨0, by omega, rfl, hM⟩
      case round =>
        clear hM
        obtain ⟨t, ht, rfl, hM⟩ := hrel
        have hpl := Sha.plus_len s R hs hrl
        have hAl : ((Sha.plus s R).take t ++ s.drop t).length = 8 := by simp [hpl, hs]; omega
        by_cases hlt : t < 8
        · have hti : (t : Int) < 8 := by omega
          have HS : ∀ _ : Unit, _ := fun _ => Sha.plus_step s R hs hrl t hlt
          generalize (Sha.plus s R).take t ++ s.drop t = A at *
          go_wp2_with (first | go_skip | ((first | (with_reducible refine gL_load ?_) | ((with_reducible refine gG_load ?_ ?_); (exact wanted_of rfl rfl rfl rfl rfl))); refine ⟨_, _, rfl, (by (first | (assumption) | (exact hM.loads_B8 (by (repeat (first | exact .head _ | apply List.Mem.tail)); done) (on_of rfl) (by first | omega | (simp only [Len] at *; omega) | (simp; omega))) | (exact hM.loads_all (by (repeat (first | exact .head _ | apply List.Mem.tail)); done) (ag_of rfl) (by first | assumption | exact Len.map (by assumption) _ | rfl | exact Len.map (by rfl) _ | exact Len.of (by simp; done))) | (exact hM.loads_one (by (repeat (first | exact .head _ | apply List.Mem.tail)); done) (on_of rfl) rfl) | (exact hM.loads_W32 (by (repeat (first | exact .head _ | apply List.Mem.tail)); done) (on_of rfl) (by first | omega | (simp only [Len] at *; omega) | (simp; omega))) | (exact loads_cell (by assumption) (on_of rfl)))), ?_⟩) | ((with_reducible refine gL_store hM ?_); refine ⟨_, _, _, rfl, rfl, (by (first | (exact hM.stores_B8 (by first | exact (rfl : B8 _ = B8 _) | exact lit8 _ (by decide)) (by (repeat (first | exact .here _ _ _ | apply Has.there)); done) (on_of rfl) (by first | omega | (simp only [Len] at *; omega) | (simp; omega))) | (exact hM.stores_all (by (repeat (first | exact .here _ _ _ | apply Has.there)); done) (ag_of rfl) (by first | assumption | exact Len.map (by assumption) _ | rfl | exact Len.map (by rfl) _ | exact Len.of (by simp; done)) (by first | assumption | exact Len.map (by assumption) _ | rfl | exact Len.map (by rfl) _ | exact Len.of (by simp; done)) (by first | exact B8_one | exact W32_one | exact one_of_all rfl)) | (exact hM.stores_W32 rfl (by (repeat (first | exact .here _ _ _ | apply Has.there)); done) (on_of rfl) (by first | omega | (simp only [Len] at *; omega) | (simp; omega))) | (exact hM.stores_one (by (repeat (first | exact .here _ _ _ | apply Has.there)); done) (on_of rfl) (by first | omega | (simp only [Len] at *; omega) | (simp; omega)) rfl rfl))), ?_⟩; intro _ hM2; clear hM; have hM := hM2; clear hM2) | ((with_reducible refine gL_alloc hM ?_); refine ⟨_, _, (zr_of rfl), ?_⟩; intro _ _ hM2; clear hM; have hM := hM2; clear hM2) | ((with_reducible refine gL_box hM ?_); refine ⟨_, _, _, rfl, rfl, (by first | assumption | exact Len.map (by assumption) _ | rfl | exact Len.map (by rfl) _ | exact Len.of (by simp; done)), ?_⟩; intro _ _ hM2; clear hM; have hM := hM2; clear hM2) | ((with_reducible refine gL_build0 ?_); refine ⟨_, _, _, _, _, _, (zr_of rfl), (ua_of rfl), (ag_of rfl), (el_of rfl), ?_⟩) | ((with_reducible refine gL_buildBytes hM ?_); refine ⟨_, _, (us_of rfl), (el_of rfl), (by decide), (by decide), rfl, (by (repeat (first | exact EvB.nil | apply EvB.cons rfl (by first | exact (rfl : B8 _ = B8 _) | exact lit8 _ (by decide)))); done), ?_⟩; intro _ _ hM2; clear hM; have hM := hM2; clear hM2) | ((with_reducible refine gL_append_B hM ?_); refine ⟨_, _, _, _, _, _, _, _, _, _, rfl, rfl, (by first | exact (rfl : Value.slice (some ⟨_, 0, none⟩) _ _ = sl (some _) _ _) | exact (rfl : Value.slice none _ _ = sl none _ _) | rfl), (us_of rfl), (el_of rfl), (by first | exact hM.src (by (repeat (first | exact .head _ | apply List.Mem.tail)); done) | exact (hM.bytes0 (by assumption)).src), (fun _ _ => by (repeat (first | exact .here _ _ _ | apply Swap.there)); done), (by first | assumption | exact Len.map (by assumption) _ | rfl | exact Len.map (by rfl) _ | exact Len.of (by simp; done)), (by first | assumption | exact Len.map (by assumption) _ | rfl | exact Len.map (by rfl) _ | exact Len.of (by simp; done)), (by first | assumption | (simp [maxLen]; done) | omega | (simp [maxLen]; omega)), (by first | omega | (simp only [Len] at *; omega) | (simp; omega)), ?_⟩; intro _ _ _ hM2 _ _; clear hM; have hM := hM2; clear hM2) | ((first | (with_reducible refine gL_field ?_) | ((with_reducible refine gG_field ?_ ?_); (exact wanted_of rfl rfl rfl rfl rfl))); refine ⟨_, _, rfl, (by (first | (exact field_one (fb_of rfl) rfl) | (exact field_agg (fa_of rfl) rfl))), ?_⟩))
          try simp only [Act.put, List.setIfInBounds_toArray, List.set_cons_succ, List.set_cons_zero]
          refine wp_region_tail 8 (by decide) (fun c vals => ⟨#[c 0, c 1, c 2, (Value.pointer (some ⟨g3, 0, none⟩) : Value), c 4, c 5, c 6, c 7, (Value.pointer (some ⟨g8, 0, none⟩) : Value), c 9, c 10, c 11, c 12, c 13, (Value.int .i64 ((t : Nat) : Int) : Value), c 15, c 16, c 17, c 18, c 19, c 20, c 21, c 22, c 23, c 24, c 25, c 26, c 27, c 28, c 29, c 30, c 31, c 32, c 33, c 34, c 35, c 36, c 37, c 38, c 39, c 40, c 41, c 42, c 43, c 44, c 45, c 46, c 47, c 48, c 49, c 50, c 51, c 52, c 53, c 54, c 55, c 56, c 57, c 58, c 59, c 60, c 61, c 62, c 63, c 64, c 65, c 66, c 67, c 68, c 69, c 70, c 71, c 72, c 73, c 74, c 75, c 76, c 77, c 78, c 79, c 80, c 81, c 82, c 83, c 84, c 85, c 86, c 87, c 88, c 89, c 90, c 91, c 92, c 93, c 94, c 95, c 96, c 97, c 98, c 99, c 100, c 101, c 102, c 103, vals 0, vals 1, vals 2, vals 3, vals 4, vals 5, vals 6, vals 7, c 112], []⟩) (fun t => [_, _, _, undef, _, _, _, _, undef, _, _, _, _, _, undef, _, _, _, _, _, _, _, _, _, _, _, _, _, _, _, _, _, _, _, _, _, _, _, _, _, _, _, _, _, _, _, _, _, _, _, _, _, _, _, _, _, _, _, _, _, _, _, _, _, _, _, _, _, _, _, _, _, _, _, _, _, _, _, _, _, _, _, _, _, _, _, _, _, _, _, _, _, _, _, _, _, _, _, _, _, _, _, _, _, undef, undef, undef, undef, undef, undef, undef, undef, _].getD t undef) (fun i => [_, _, _, _, _, _, _, _].getD i undef) (by kernel_rfl)
            [[], [0], [0, 1], [], [3], [3, 4], [0, 1, 2, 3, 4, 5], [0, 1, 2, 3, 4, 5, 6], [0, 1, 2, 3, 4, 5, 6, 7]] (by kernel_rfl) (by kernel_rfl) (fun _ => True) trivial
            [fun x _ => x = (Value.int .i64 ((t : Nat) : Int) : Value),
             fun x _ => x = (Value.pointer (some ⟨g3, t, none⟩) : Value),
             fun x _ => x = (W32 (gw A t) : Value),
             fun x _ => x = (Value.int .i64 ((t : Nat) : Int) : Value),
             fun x _ => x = (Value.pointer (some ⟨g8, t, none⟩) : Value),
             fun x _ => x = (W32 (gw R t) : Value),
             fun x _ => x = (W32 ((gw A t) + (gw R t)) : Value),
             fun x _ => x = (Value.pointer (some ⟨g3, t, none⟩) : Value)]
            ⟨fun _ _ _ h _ => h, fun _ _ _ h _ => h, fun _ _ _ h _ => h, fun _ _ _ h _ => h, fun _ _ _ h _ => h, fun _ _ _ h _ => h, fun _ _ _ h _ => h, fun _ _ _ h _ => h, trivial⟩ []
            ⟨?_, ?_, ?_, ?_, ?_, ?_, ?_, ?_, trivial⟩ ?_
          · refine showA_op 0 (by intro _ _ _; kernel_rfl) rfl rfl (fun c vals w hC hD => ?_)
            clear hD
            refine makes1 (x := .tmp 14) (X := Value.int .i64 ((t : Nat) : Int)) (by kernel_rfl : _ = (Value.int .i64 ((t : Nat) : Int) : Value)) (fun ρ rc rf q14 => ?_)
            exact makes_move (.inl rfl) q14 ⟨Adds.refl _, rfl⟩
          · refine showA_op 1 (by intro _ _ _; kernel_rfl) rfl rfl (fun c vals w hC hD => ?_)
            have h0 : vals 0 = .int .i64 ((t : Nat) : Int) := hD 0 rfl
            clear hD
            refine makes2 (x := .tmp 3) (X := Value.pointer (some ⟨g3, 0, none⟩)) (y := .tmp 104) (Y := Value.int .i64 ((t : Nat) : Int)) (by kernel_rfl : _ = (Value.pointer (some ⟨g3, 0, none⟩) : Value)) ((by kernel_rfl : _ = vals 0).trans h0) (fun ρ rc rf q3 q104 => ?_)
            clear h0
            refine makes_value (v := Value.pointer (some ⟨g3, t, none⟩)) ?_ ⟨Adds.refl _, rfl⟩
            go_simp
            all_goals first | done | rfl | (rw [if_pos (by omega)]; refine congrArg (fun x => Result.ok (Next.value (Value.pointer (some ⟨_, x, none⟩))) _) ?_; omega) | (rw [wrapP_i64]; omega) | go_num | (simp; done) | (simp; omega) | (congr 1; first | rfl | (rw [wrapP_i64]; omega) | (congr 1; first | rfl | (simp; done) | (simp; omega) | (congr 2; omega) | go_num))
          · refine showA_op 2 (by intro _ _ _; kernel_rfl) rfl rfl (fun c vals w hC hD => ?_)
            have h1 : vals 1 = .pointer (some ⟨g3, t, none⟩) := hD 1 rfl
            clear hD
            refine makes1 (x := .tmp 105) (X := Value.pointer (some ⟨g3, t, none⟩)) ((by kernel_rfl : _ = vals 1).trans h1) (fun ρ rc rf q105 => ?_)
            clear h1
            exact makes_load ((hM.adds hC).loads_W32 (by (repeat (first | exact .head _ | apply List.Mem.tail)); done) (on_of rfl) (by first | omega | (simp only [Len] at *; omega) | (simp; omega))) rfl q105 ⟨Adds.refl _, rfl⟩
          · refine showA_op 3 (by intro _ _ _; kernel_rfl) rfl rfl (fun c vals w hC hD => ?_)
            clear hD
            refine makes1 (x := .tmp 14) (X := Value.int .i64 ((t : Nat) : Int)) (by kernel_rfl : _ = (Value.int .i64 ((t : Nat) : Int) : Value)) (fun ρ rc rf q14 => ?_)
            exact makes_move (.inl rfl) q14 ⟨Adds.refl _, rfl⟩
          · refine showA_op 4 (by intro _ _ _; kernel_rfl) rfl rfl (fun c vals w hC hD => ?_)
            have h3 : vals 3 = .int .i64 ((t : Nat) : Int) := hD 3 rfl
            clear hD
            refine makes2 (x := .tmp 8) (X := Value.pointer (some ⟨g8, 0, none⟩)) (y := .tmp 107) (Y := Value.int .i64 ((t : Nat) : Int)) (by kernel_rfl : _ = (Value.pointer (some ⟨g8, 0, none⟩) : Value)) ((by kernel_rfl : _ = vals 3).trans h3) (fun ρ rc rf q8 q107 => ?_)
            clear h3
            refine makes_value (v := Value.pointer (some ⟨g8, t, none⟩)) ?_ ⟨Adds.refl _, rfl⟩
            go_simp
            all_goals first | done | rfl | (rw [if_pos (by omega)]; refine congrArg (fun x => Result.ok (Next.value (Value.pointer (some ⟨_, x, none⟩))) _) ?_; omega) | (rw [wrapP_i64]; omega) | go_num | (simp; done) | (simp; omega) | (congr 1; first | rfl | (rw [wrapP_i64]; omega) | (congr 1; first | rfl | (simp; done) | (simp; omega) | (congr 2; omega) | go_num))
          · refine showA_op 5 (by intro _ _ _; kernel_rfl) rfl rfl (fun c vals w hC hD => ?_)
            have h4 : vals 4 = .pointer (some ⟨g8, t, none⟩) := hD 4 rfl
            clear hD
            refine makes1 (x := .tmp 108) (X := Value.pointer (some ⟨g8, t, none⟩)) ((by kernel_rfl : _ = vals 4).trans h4) (fun ρ rc rf q108 => ?_)
            clear h4
            exact makes_load ((hM.adds hC).loads_W32 (by (repeat (first | exact .head _ | apply List.Mem.tail)); done) (on_of rfl) (by first | omega | (simp only [Len] at *; omega) | (simp; omega))) rfl q108 ⟨Adds.refl _, rfl⟩
          · refine showA_op 6 (by intro _ _ _; kernel_rfl) rfl rfl (fun c vals w hC hD => ?_)
            have h2 : vals 2 = W32 (gw A t) := hD 2 rfl
            have h5 : vals 5 = W32 (gw R t) := hD 5 rfl
            clear hD
            refine makes2 (x := .tmp 106) (X := W32 (gw A t)) (y := .tmp 109) (Y := W32 (gw R t)) ((by kernel_rfl : _ = vals 2).trans h2) ((by kernel_rfl : _ = vals 5).trans h5) (fun ρ rc rf q106 q109 => ?_)
            clear h2 h5
            refine makes_value (v := W32 ((gw A t) + (gw R t))) ?_ ⟨Adds.refl _, rfl⟩
            go_simp
            all_goals first | done | rfl | (rw [if_pos (by omega)]; refine congrArg (fun x => Result.ok (Next.value (Value.pointer (some ⟨_, x, none⟩))) _) ?_; omega) | (rw [wrapP_i64]; omega) | go_num | (simp; done) | (simp; omega) | (congr 1; first | rfl | (rw [wrapP_i64]; omega) | (congr 1; first | rfl | (simp; done) | (simp; omega) | (congr 2; omega) | go_num))
          · refine showA_op 7 (by intro _ _ _; kernel_rfl) rfl rfl (fun c vals w hC hD => ?_)
            have h0 : vals 0 = .int .i64 ((t : Nat) : Int) := hD 0 rfl
            clear hD
            refine makes2 (x := .tmp 3) (X := Value.pointer (some ⟨g3, 0, none⟩)) (y := .tmp 104) (Y := Value.int .i64 ((t : Nat) : Int)) (by kernel_rfl : _ = (Value.pointer (some ⟨g3, 0, none⟩) : Value)) ((by kernel_rfl : _ = vals 0).trans h0) (fun ρ rc rf q3 q104 => ?_)
            clear h0
            refine makes_value (v := Value.pointer (some ⟨g3, t, none⟩)) ?_ ⟨Adds.refl _, rfl⟩
            go_simp
            all_goals first | done | rfl | (rw [if_pos (by omega)]; refine congrArg (fun x => Result.ok (Next.value (Value.pointer (some ⟨_, x, none⟩))) _) ?_; omega) | (rw [wrapP_i64]; omega) | go_num | (simp; done) | (simp; omega) | (congr 1; first | rfl | (rw [wrapP_i64]; omega) | (congr 1; first | rfl | (simp; done) | (simp; omega) | (congr 2; omega) | go_num))
          intro vals w' hC hΦ hne
          have h6 : vals 6 = W32 ((gw A t) + (gw R t)) := hΦ 6 (by decide)
          have h7 : vals 7 = .pointer (some ⟨g3, t, none⟩) := hΦ 7 (by decide)
          clear hΦ hne
          simp only [List.getD_eq_getElem?_getD, List.getElem?_cons_zero, List.getElem?_cons_succ, Option.getD_some, List.drop_succ_cons, List.drop_zero]
          simp only [h6, h7]
          clear h6 h7
          try simp only [tuple_undef]
          replace hM := hM.adds hC
          clear hC
          go_wp2_with (first | go_skip | ((first | (with_reducible refine gL_load ?_) | ((with_reducible refine gG_load ?_ ?_); (exact wanted_of rfl rfl rfl rfl rfl))); refine ⟨_, _, rfl, (by (first | (assumption) | (exact hM.loads_B8 (by (repeat (first | exact .head _ | apply List.Mem.tail)); done) (on_of rfl) (by first | omega | (simp only [Len] at *; omega) | (simp; omega))) | (exact hM.loads_all (by (repeat (first | exact .head _ | apply List.Mem.tail)); done) (ag_of rfl) (by first | assumption | exact Len.map (by assumption) _ | rfl | exact Len.map (by rfl) _ | exact Len.of (by simp; done))) | (exact hM.loads_one (by (repeat (first | exact .head _ | apply List.Mem.tail)); done) (on_of rfl) rfl) | (exact hM.loads_W32 (by (repeat (first | exact .head _ | apply List.Mem.tail)); done) (on_of rfl) (by first | omega | (simp only [Len] at *; omega) | (simp; omega))) | (exact loads_cell (by assumption) (on_of rfl)))), ?_⟩) | ((with_reducible refine gL_store hM ?_); refine ⟨_, _, _, rfl, rfl, (by (first | (exact hM.stores_B8 (by first | exact (rfl : B8 _ = B8 _) | exact lit8 _ (by decide)) (by (repeat (first | exact .here _ _ _ | apply Has.there)); done) (on_of rfl) (by first | omega | (simp only [Len] at *; omega) | (simp; omega))) | (exact hM.stores_all (by (repeat (first | exact .here _ _ _ | apply Has.there)); done) (ag_of rfl) (by first | assumption | exact Len.map (by assumption) _ | rfl | exact Len.map (by rfl) _ | exact Len.of (by simp; done)) (by first | assumption | exact Len.map (by assumption) _ | rfl | exact Len.map (by rfl) _ | exact Len.of (by simp; done)) (by first | exact B8_one | exact W32_one | exact one_of_all rfl)) | (exact hM.stores_W32 rfl (by (repeat (first | exact .here _ _ _ | apply Has.there)); done) (on_of rfl) (by first | omega | (simp only [Len] at *; omega) | (simp; omega))) | (exact hM.stores_one (by (repeat (first | exact .here _ _ _ | apply Has.there)); done) (on_of rfl) (by first | omega | (simp only [Len] at *; omega) | (simp; omega)) rfl rfl))), ?_⟩; intro _ hM2; clear hM; have hM := hM2; clear hM2) | ((with_reducible refine gL_alloc hM ?_); refine ⟨_, _, (zr_of rfl), ?_⟩; intro _ _ hM2; clear hM; have hM := hM2; clear hM2) | ((with_reducible refine gL_box hM ?_); refine ⟨_, _, _, rfl, rfl, (by first | assumption | exact Len.map (by assumption) _ | rfl | exact Len.map (by rfl) _ | exact Len.of (by simp; done)), ?_⟩; intro _ _ hM2; clear hM; have hM := hM2; clear hM2) | ((with_reducible refine gL_build0 ?_); refine ⟨_, _, _, _, _, _, (zr_of rfl), (ua_of rfl), (ag_of rfl), (el_of rfl), ?_⟩) | ((with_reducible refine gL_buildBytes hM ?_); refine ⟨_, _, (us_of rfl), (el_of rfl), (by decide), (by decide), rfl, (by (repeat (first | exact EvB.nil | apply EvB.cons rfl (by first | exact (rfl : B8 _ = B8 _) | exact lit8 _ (by decide)))); done), ?_⟩; intro _ _ hM2; clear hM; have hM := hM2; clear hM2) | ((with_reducible refine gL_append_B hM ?_); refine ⟨_, _, _, _, _, _, _, _, _, _, rfl, rfl, (by first | exact (rfl : Value.slice (some ⟨_, 0, none⟩) _ _ = sl (some _) _ _) | exact (rfl : Value.slice none _ _ = sl none _ _) | rfl), (us_of rfl), (el_of rfl), (by first | exact hM.src (by (repeat (first | exact .head _ | apply List.Mem.tail)); done) | exact (hM.bytes0 (by assumption)).src), (fun _ _ => by (repeat (first | exact .here _ _ _ | apply Swap.there)); done), (by first | assumption | exact Len.map (by assumption) _ | rfl | exact Len.map (by rfl) _ | exact Len.of (by simp; done)), (by first | assumption | exact Len.map (by assumption) _ | rfl | exact Len.map (by rfl) _ | exact Len.of (by simp; done)), (by first | assumption | (simp [maxLen]; done) | omega | (simp [maxLen]; omega)), (by first | omega | (simp only [Len] at *; omega) | (simp; omega)), ?_⟩; intro _ _ _ hM2 _ _; clear hM; have hM := hM2; clear hM2) | ((first | (with_reducible refine gL_field ?_) | ((with_reducible refine gG_field ?_ ?_); (exact wanted_of rfl rfl rfl rfl rfl))); refine ⟨_, _, rfl, (by (first | (exact field_one (fb_of rfl) rfl) | (exact field_agg (fa_of rfl) rfl))), ?_⟩))
          rw [HS ()] at hM
          go_roundw
          case rel => exact ⟨t + 1, by omega, by go_num, hM⟩
          case measure => simp [intOf]; omega
        · have : t = 8 := by omega
          subst this
          rw [List.take_of_length_le (by omega), List.drop_of_length_le (by omega), List.append_nil, ← HP ()] at hM
          go_wp2_with (first | ((with_reducible refine gL_load ?_); refine ⟨_, _, rfl, hM.loads_all (.tail _ (.tail _ (.tail _ (.tail _ (.head _))))) (ag_of rfl) (W32_len hOl), ?_⟩) |
            ((with_reducible refine gL_store hM ?_); refine ⟨_, _, _, rfl, rfl, hM.stores_all (by (repeat (first | exact .here _ _ _ | apply Has.there)); done) (ag_of rfl) (W32_len hOl) (by rfl) W32_one, ?_⟩; intro _ hM2; clear hM; have hM := hM2; clear hM2))
          exact hM.ret_cell rfl rfl rfl (.tail _ (.tail _ (.head _))) (ag_of rfl) (W32_len hOl) ⟨rfl, hM.done⟩
end Go.Proofs.Ytejmbkljnhnklaa
