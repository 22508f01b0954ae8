/-
  The walks of the reference of layer 2: words.
-/
import Derived.Test.YtejmbkljnhnklaaShaH
namespace Go.Proofs.Ytejmbkljnhnklaa
open Go.RowKit Go.PK

theorem ref02_turned_i (w : World) (x : UInt32) (n : Nat) (z : Int) (hz : z = n) (hn2 : n < 32) : Calls Try.prog 89 #[W32 x, .int .i64 z] w fun e w' => e = .returned (W32 (Sha.turned x n)) ∧ Below w.heap.size w w' := by
  subst hz
  exact ref02_turned w x n hn2
theorem bytes_load {P : Program} {w : World} {b off n cap : Nat} {l : List UInt8} (hv : Bytes w (.slice (some ⟨b, off, none⟩) n cap) l) {ty : TypeId} (ht : oneB P ty = true) {i : Nat} (hi : i < l.length) : Loads P w ty ⟨b, off + i, none⟩ (B8 (gb l i)) := by
  obtain ⟨b', off', he, -, hc⟩ := hv.at hi
  cases he
  exact loads_cell hc ht
set_option maxRecDepth 100000 in
set_option maxHeartbeats 4000000 in
theorem ref02_words (w0 : World) (v : Value) (mm : List UInt8) (hv : Bytes w0 v mm) (hc : mm.length = 64) :
    Calls Try.prog 88 #[v] w0 fun e w' => e = .returned (.agg ((Sha.wl mm 64).map W32).toArray) ∧ Below w0.heap.size w0 w' := by
  have hWl : (Sha.wl mm 64).length = 64 := Sha.wl_len _ _
  have HW : ∀ _ : Unit, Sha.laying mm 64 = Sha.wl mm 64 := fun _ => Sha.laying_all mm
  generalize Sha.wl mm 64 = W at *
  have hM := Mem.start w0
  obtain ⟨ao, cap, rfl, e1, e2, e3, e4⟩ := id hv
  obtain ⟨bk, off, rfl, hbk, -⟩ := e4 0 (by omega)
  clear e3 e4
  go_enter Try.func88, Try.ntmps88
  go_wp2_with (first | ((first | ((with_reducible refine gL_alloc (dst := some 2) hM ?_); refine ⟨_, _, (zr_of rfl), ?_⟩) | ((with_reducible refine gL_box (dst := some 2) hM ?_); refine ⟨_, _, _, rfl, rfl, (by first | assumption | exact Len.map (by assumption) _ | rfl | exact Len.map (by rfl) _ | exact Len.of (by simp; done)), ?_⟩)); intro g2 _ hM2; clear hM; have hM := hM2; clear hM2) | ((first | ((with_reducible refine gL_alloc (dst := some 3) hM ?_); refine ⟨_, _, (zr_of rfl), ?_⟩) | ((with_reducible refine gL_box (dst := some 3) hM ?_); refine ⟨_, _, _, rfl, rfl, (by first | assumption | exact Len.map (by assumption) _ | rfl | exact Len.map (by rfl) _ | exact Len.of (by simp; done)), ?_⟩)); intro g3 _ hM2; clear hM; have hM := hM2; clear hM2) | go_skip | ((first | (with_reducible refine gL_load ?_) | ((with_reducible refine gG_load ?_ ?_); (exact wanted_of rfl rfl rfl rfl rfl))); refine ⟨_, _, rfl, (by (first | (assumption) | (exact hM.loads_B8 (by (repeat (first | exact .head _ | apply List.Mem.tail)); done) (on_of rfl) (by first | omega | (simp only [Len] at *; omega) | (simp; omega))) | (exact hM.loads_all (by (repeat (first | exact .head _ | apply List.Mem.tail)); done) (ag_of rfl) (by first | assumption | exact Len.map (by assumption) _ | rfl | exact Len.map (by rfl) _ | exact Len.of (by simp; done))) | (exact hM.loads_one (by (repeat (first | exact .head _ | apply List.Mem.tail)); done) (on_of rfl) rfl) | (exact hM.loads_W32 (by (repeat (first | exact .head _ | apply List.Mem.tail)); done) (on_of rfl) (by first | omega | (simp only [Len] at *; omega) | (simp; omega))) | (exact loads_cell (by assumption) (on_of rfl)))), ?_⟩) | ((with_reducible refine gL_store hM ?_); refine ⟨_, _, _, rfl, rfl, (by (first | (exact hM.stores_B8 (by first | exact (rfl : B8 _ = B8 _) | exact lit8 _ (by decide)) (by (repeat (first | exact .here _ _ _ | apply Has.there)); done) (on_of rfl) (by first | omega | (simp only [Len] at *; omega) | (simp; omega))) | (exact hM.stores_all (by (repeat (first | exact .here _ _ _ | apply Has.there)); done) (ag_of rfl) (by first | assumption | exact Len.map (by assumption) _ | rfl | exact Len.map (by rfl) _ | exact Len.of (by simp; done)) (by first | assumption | exact Len.map (by assumption) _ | rfl | exact Len.map (by rfl) _ | exact Len.of (by simp; done)) (by first | exact B8_one | exact W32_one | exact one_of_all rfl)) | (exact hM.stores_W32 rfl (by (repeat (first | exact .here _ _ _ | apply Has.there)); done) (on_of rfl) (by first | omega | (simp only [Len] at *; omega) | (simp; omega))) | (exact hM.stores_one (by (repeat (first | exact .here _ _ _ | apply Has.there)); done) (on_of rfl) (by first | omega | (simp only [Len] at *; omega) | (simp; omega)) rfl rfl))), ?_⟩; intro _ hM2; clear hM; have hM := hM2; clear hM2) | ((with_reducible refine gL_alloc hM ?_); refine ⟨_, _, (zr_of rfl), ?_⟩; intro _ _ hM2; clear hM; have hM := hM2; clear hM2) | ((with_reducible refine gL_box hM ?_); refine ⟨_, _, _, rfl, rfl, (by first | assumption | exact Len.map (by assumption) _ | rfl | exact Len.map (by rfl) _ | exact Len.of (by simp; done)), ?_⟩; intro _ _ hM2; clear hM; have hM := hM2; clear hM2) | ((with_reducible refine gL_build0 ?_); refine ⟨_, _, _, _, _, _, (zr_of rfl), (ua_of rfl), (ag_of rfl), (el_of rfl), ?_⟩) | ((with_reducible refine gL_buildBytes hM ?_); refine ⟨_, _, (us_of rfl), (el_of rfl), (by decide), (by decide), rfl, (by (repeat (first | exact EvB.nil | apply EvB.cons rfl (by first | exact (rfl : B8 _ = B8 _) | exact lit8 _ (by decide)))); done), ?_⟩; intro _ _ hM2; clear hM; have hM := hM2; clear hM2) | ((with_reducible refine gL_append_B hM ?_); refine ⟨_, _, _, _, _, _, _, _, _, _, rfl, rfl, (by first | exact (rfl : Value.slice (some ⟨_, 0, none⟩) _ _ = sl (some _) _ _) | exact (rfl : Value.slice none _ _ = sl none _ _) | rfl), (us_of rfl), (el_of rfl), (by first | exact hM.src (by (repeat (first | exact .head _ | apply List.Mem.tail)); done) | exact (hM.bytes0 (by assumption)).src), (fun _ _ => by (repeat (first | exact .here _ _ _ | apply Swap.there)); done), (by first | assumption | exact Len.map (by assumption) _ | rfl | exact Len.map (by rfl) _ | exact Len.of (by simp; done)), (by first | assumption | exact Len.map (by assumption) _ | rfl | exact Len.map (by rfl) _ | exact Len.of (by simp; done)), (by first | assumption | (simp [maxLen]; done) | omega | (simp [maxLen]; omega)), (by first | omega | (simp only [Len] at *; omega) | (simp; omega)), ?_⟩; intro _ _ _ hM2 _ _; clear hM; have hM := hM2; clear hM2) | ((first | (with_reducible refine gL_field ?_) | ((with_reducible refine gG_field ?_ ?_); (exact wanted_of rfl rfl rfl rfl rfl))); refine ⟨_, _, rfl, (by (first | (exact field_one (fb_of rfl) rfl) | (exact field_agg (fa_of rfl) rfl))), ?_⟩))
  rw [show ∀ X : List Blk, (⟨some g3, 113, (List.replicate 64 (0 : UInt32)).map W32, 64⟩ :: X : List Blk) = ⟨some g3, 113, (Sha.laying mm 0).map W32, 64⟩ :: X from fun X => by rw [Sha.laying_zero]] at hM
  go_loopw [4] (fun i wr => ∃ t : Nat, t ≤ 16 ∧ i = .int .i64 t ∧ Mem [] w0 wr [⟨some g3, 113, (Sha.laying mm t).map W32, 64⟩, ⟨some g2, 113, (List.replicate 64 (0 : UInt32)).map W32, 64⟩]) (fun i _ => 16 - (intOf i).toNat)
  case atStart => exact ⟨0, by omega, rfl, hM⟩
  case round =>
    clear hM
    obtain ⟨t, ht, rfl, hM⟩ := hrel
    by_cases hlt : t < 16
    · have hti : (t : Int) < 16 := by omega
      have hl := Sha.laying_len mm t (by omega)
      have HS : Hid ((Sha.laying mm t).set t (Sha.be mm t) = Sha.laying mm (t + 1)) := Lib.hid (by rw [← Sha.laying_set mm t (by omega), Sha.next, if_pos hlt])
      generalize Sha.laying mm t = A at *
      go_wp2_with (first | go_skip | ((first | (with_reducible refine gL_load ?_) | ((with_reducible refine gG_load ?_ ?_); (exact wanted_of rfl rfl rfl rfl rfl))); refine ⟨_, _, rfl, (by (first | (assumption) | (exact hM.loads_B8 (by (repeat (first | exact .head _ | apply List.Mem.tail)); done) (on_of rfl) (by first | omega | (simp only [Len] at *; omega) | (simp; omega))) | (exact hM.loads_all (by (repeat (first | exact .head _ | apply List.Mem.tail)); done) (ag_of rfl) (by first | assumption | exact Len.map (by assumption) _ | rfl | exact Len.map (by rfl) _ | exact Len.of (by simp; done))) | (exact hM.loads_one (by (repeat (first | exact .head _ | apply List.Mem.tail)); done) (on_of rfl) rfl) | (exact hM.loads_W32 (by (repeat (first | exact .head _ | apply List.Mem.tail)); done) (on_of rfl) (by first | omega | (simp only [Len] at *; omega) | (simp; omega))) | (exact loads_cell (by assumption) (on_of rfl)))), ?_⟩) | ((with_reducible refine gL_store hM ?_); refine ⟨_, _, _, rfl, rfl, (by (first | (exact hM.stores_B8 (by first | exact (rfl : B8 _ = B8 _) | exact lit8 _ (by decide)) (by (repeat (first | exact .here _ _ _ | apply Has.there)); done) (on_of rfl) (by first | omega | (simp only [Len] at *; omega) | (simp; omega))) | (exact hM.stores_all (by (repeat (first | exact .here _ _ _ | apply Has.there)); done) (ag_of rfl) (by first | assumption | exact Len.map (by assumption) _ | rfl | exact Len.map (by rfl) _ | exact Len.of (by simp; done)) (by first | assumption | exact Len.map (by assumption) _ | rfl | exact Len.map (by rfl) _ | exact Len.of (by simp; done)) (by first | exact B8_one | exact W32_one | exact one_of_all rfl)) | (exact hM.stores_W32 rfl (by (repeat (first | exact .here _ _ _ | apply Has.there)); done) (on_of rfl) (by first | omega | (simp only [Len] at *; omega) | (simp; omega))) | (exact hM.stores_one (by (repeat (first | exact .here _ _ _ | apply Has.there)); done) (on_of rfl) (by first | omega | (simp only [Len] at *; omega) | (simp; omega)) rfl rfl))), ?_⟩; intro _ hM2; clear hM; have hM := hM2; clear hM2) | ((with_reducible refine gL_alloc hM ?_); refine ⟨_, _, (zr_of rfl), ?_⟩; intro _ _ hM2; clear hM; have hM := hM2; clear hM2) | ((with_reducible refine gL_box hM ?_); refine ⟨_, _, _, rfl, rfl, (by first | assumption | exact Len.map (by assumption) _ | rfl | exact Len.map (by rfl) _ | exact Len.of (by simp; done)), ?_⟩; intro _ _ hM2; clear hM; have hM := hM2; clear hM2) | ((with_reducible refine gL_build0 ?_); refine ⟨_, _, _, _, _, _, (zr_of rfl), (ua_of rfl), (ag_of rfl), (el_of rfl), ?_⟩) | ((with_reducible refine gL_buildBytes hM ?_); refine ⟨_, _, (us_of rfl), (el_of rfl), (by decide), (by decide), rfl, (by (repeat (first | exact EvB.nil | apply EvB.cons rfl (by first | exact (rfl : B8 _ = B8 _) | exact lit8 _ (by decide)))); done), ?_⟩; intro _ _ hM2; clear hM; have hM := hM2; clear hM2) | ((with_reducible refine gL_append_B hM ?_); refine ⟨_, _, _, _, _, _, _, _, _, _, rfl, rfl, (by first | exact (rfl : Value.slice (some ⟨_, 0, none⟩) _ _ = sl (some _) _ _) | exact (rfl : Value.slice none _ _ = sl none _ _) | rfl), (us_of rfl), (el_of rfl), (by first | exact hM.src (by (repeat (first | exact .head _ | apply List.Mem.tail)); done) | exact (hM.bytes0 (by assumption)).src), (fun _ _ => by (repeat (first | exact .here _ _ _ | apply Swap.there)); done), (by first | assumption | exact Len.map (by assumption) _ | rfl | exact Len.map (by rfl) _ | exact Len.of (by simp; done)), (by first | assumption | exact Len.map (by assumption) _ | rfl | exact Len.map (by rfl) _ | exact Len.of (by simp; done)), (by first | assumption | (simp [maxLen]; done) | omega | (simp [maxLen]; omega)), (by first | omega | (simp only [Len] at *; omega) | (simp; omega)), ?_⟩; intro _ _ _ hM2 _ _; clear hM; have hM := hM2; clear hM2) | ((first | (with_reducible refine gL_field ?_) | ((with_reducible refine gG_field ?_ ?_); (exact wanted_of rfl rfl rfl rfl rfl))); refine ⟨_, _, rfl, (by (first | (exact field_one (fb_of rfl) rfl) | (exact field_agg (fa_of rfl) rfl))), ?_⟩))
      try simp only [Act.put, List.setIfInBounds_toArray, List.set_cons_succ, List.set_cons_zero]
      refine wp_region_tail 34 (by decide) (fun c vals => ⟨#[(Value.slice (some ⟨bk, off, none⟩) 64 cap : Value), c 1, c 2, (Value.pointer (some ⟨g3, 0, none⟩) : Value), (Value.int .i64 ((t : Nat) : Int) : Value), c 5, c 6, c 7, c 8, c 9, c 10, c 11, c 12, vals 0, vals 1, vals 2, vals 3, vals 4, vals 5, vals 6, vals 7, vals 8, vals 9, vals 10, vals 11, vals 12, vals 13, vals 14, vals 15, vals 16, vals 17, vals 18, vals 19, vals 20, vals 21, vals 22, vals 23, vals 24, vals 25, vals 26, vals 27, vals 28, vals 29, vals 30, vals 31, vals 32, vals 33, c 47, c 48, c 49, c 50, c 51, c 52, c 53, c 54, c 55, c 56, c 57, c 58, c 59, c 60, c 61, c 62, c 63, c 64, c 65, c 66, c 67, c 68, c 69, c 70, c 71, c 72, c 73, c 74, c 75, c 76, c 77, c 78, c 79, c 80, c 81, c 82, c 83, c 84, c 85, c 86, c 87, c 88, c 89, c 90, c 91], []⟩) (fun t => [undef, _, _, undef, undef, _, _, _, _, _, _, _, _, undef, undef, undef, undef, undef, undef, undef, undef, undef, undef, undef, undef, undef, undef, undef, undef, undef, undef, undef, undef, undef, undef, undef, undef, undef, undef, undef, undef, undef, undef, undef, undef, undef, undef, _, _, _, _, _, _, _, _, _, _, _, _, _, _, _, _, _, _, _, _, _, _, _, _, _, _, _, _, _, _, _, _, _, _, _, _, _, _, _, _, _, _, _, _, _].getD t undef) (fun i => [_, _, _, _, _, _, _, _, _, _, _, _, _, _, _, _, _, _, _, _, _, _, _, _, _, _, _, _, _, _, _, _, _, _].getD i undef) (by kernel_rfl)
        [[], [], [], [2], [1, 2, 3], [1, 2, 3, 4], [1, 2, 3, 4, 5], [1, 2, 3, 4, 5, 6], [], [], [9], [9, 10], [8, 9, 10, 11], [8, 9, 10, 11, 12], [8, 9, 10, 11, 12, 13], [8, 9, 10, 11, 12, 13, 14], [1, 2, 3, 4, 5, 6, 7, 8, 9, 10, 11, 12, 13, 14, 15], [], [], [18], [18, 19], [17, 18, 19, 20], [17, 18, 19, 20, 21], [17, 18, 19, 20, 21, 22], [17, 18, 19, 20, 21, 22, 23], [1, 2, 3, 4, 5, 6, 7, 8, 9, 10, 11, 12, 13, 14, 15, 16, 17, 18, 19, 20, 21, 22, 23, 24], [], [], [27], [27, 28], [26, 27, 28, 29], [26, 27, 28, 29, 30], [26, 27, 28, 29, 30, 31], [1, 2, 3, 4, 5, 6, 7, 8, 9, 10, 11, 12, 13, 14, 15, 16, 17, 18, 19, 20, 21, 22, 23, 24, 25, 26, 27, 28, 29, 30, 31, 32], [0, 1, 2, 3, 4, 5, 6, 7, 8, 9, 10, 11, 12, 13, 14, 15, 16, 17, 18, 19, 20, 21, 22, 23, 24, 25, 26, 27, 28, 29, 30, 31, 32, 33], [0, 1, 2, 3, 4, 5, 6, 7, 8, 9, 10, 11, 12, 13, 14, 15, 16, 17, 18, 19, 20, 21, 22, 23, 24, 25, 26, 27, 28, 29, 30, 31, 32, 33, 34]] (by kernel_rfl) (by kernel_rfl) (fun _ => True) trivial
        [fun x _ => x = (Value.int .i64 ((t : Nat) : Int) : Value),
         fun x _ => x = (Value.slice (some ⟨bk, off, none⟩) 64 cap : Value),
         fun x _ => x = (Value.int .i64 ((t : Nat) : Int) : Value),
         fun x _ => x = (Value.int .i64 ((4 * t : Nat) : Int) : Value),
         fun x _ => x = (Value.pointer (some ⟨bk, off + (4 * t), none⟩) : Value),
         fun x _ => x = (B8 (gb mm (4 * t)) : Value),
         fun x _ => x = (W32 (((gb mm (4 * t))).toUInt32) : Value),
         fun x _ => x = (W32 ((((gb mm (4 * t))).toUInt32) <<< 24) : Value),
         fun x _ => x = (Value.slice (some ⟨bk, off, none⟩) 64 cap : Value),
         fun x _ => x = (Value.int .i64 ((t : Nat) : Int) : Value),
         fun x _ => x = (Value.int .i64 ((4 * t : Nat) : Int) : Value),
         fun x _ => x = (Value.int .i64 (((4 * t) + 1 : Nat) : Int) : Value),
         fun x _ => x = (Value.pointer (some ⟨bk, off + ((4 * t) + 1), none⟩) : Value),
         fun x _ => x = (B8 (gb mm ((4 * t) + 1)) : Value),
         fun x _ => x = (W32 (((gb mm ((4 * t) + 1))).toUInt32) : Value),
         fun x _ => x = (W32 ((((gb mm ((4 * t) + 1))).toUInt32) <<< 16) : Value),
         fun x _ => x = (W32 (((((gb mm (4 * t))).toUInt32) <<< 24) ||| ((((gb mm ((4 * t) + 1))).toUInt32) <<< 16)) : Value),
         fun x _ => x = (Value.slice (some ⟨bk, off, none⟩) 64 cap : Value),
         fun x _ => x = (Value.int .i64 ((t : Nat) : Int) : Value),
         fun x _ => x = (Value.int .i64 ((4 * t : Nat) : Int) : Value),
         fun x _ => x = (Value.int .i64 (((4 * t) + 2 : Nat) : Int) : Value),
         fun x _ => x = (Value.pointer (some ⟨bk, off + ((4 * t) + 2), none⟩) : Value),
         fun x _ => x = (B8 (gb mm ((4 * t) + 2)) : Value),
         fun x _ => x = (W32 (((gb mm ((4 * t) + 2))).toUInt32) : Value),
         fun x _ => x = (W32 ((((gb mm ((4 * t) + 2))).toUInt32) <<< 8) : Value),
         fun x _ => x = (W32 ((((((gb mm (4 * t))).toUInt32) <<< 24) ||| ((((gb mm ((4 * t) + 1))).toUInt32) <<< 16)) ||| ((((gb mm ((4 * t) + 2))).toUInt32) <<< 8)) : Value),
         fun x _ => x = (Value.slice (some ⟨bk, off, none⟩) 64 cap : Value),
         fun x _ => x = (Value.int .i64 ((t : Nat) : Int) : Value),
         fun x _ => x = (Value.int .i64 ((4 * t : Nat) : Int) : Value),
         fun x _ => x = (Value.int .i64 (((4 * t) + 3 : Nat) : Int) : Value),
         fun x _ => x = (Value.pointer (some ⟨bk, off + ((4 * t) + 3), none⟩) : Value),
         fun x _ => x = (B8 (gb mm ((4 * t) + 3)) : Value),
         fun x _ => x = (W32 (((gb mm ((4 * t) + 3))).toUInt32) : Value),
         fun x _ => x = (W32 (((((((gb mm (4 * t))).toUInt32) <<< 24) ||| ((((gb mm ((4 * t) + 1))).toUInt32) <<< 16)) ||| ((((gb mm ((4 * t) + 2))).toUInt32) <<< 8)) ||| (((gb mm ((4 * t) + 3))).toUInt32)) : Value)]
        ⟨fun _ _ _ h _ => h, fun _ _ _ h _ => h, fun _ _ _ h _ => h, fun _ _ _ h _ => h, fun _ _ _ h _ => h, fun _ _ _ h _ => h, fun _ _ _ h _ => h, fun _ _ _ h _ => h, fun _ _ _ h _ => h, fun _ _ _ h _ => h, fun _ _ _ h _ => h, fun _ _ _ h _ => h, fun _ _ _ h _ => h, fun _ _ _ h _ => h, fun _ _ _ h _ => h, fun _ _ _ h _ => h, fun _ _ _ h _ => h, fun _ _ _ h _ => h, fun _ _ _ h _ => h, fun _ _ _ h _ => h, fun _ _ _ h _ => h, fun _ _ _ h _ => h, fun _ _ _ h _ => h, fun _ _ _ h _ => h, fun _ _ _ h _ => h, fun _ _ _ h _ => h, fun _ _ _ h _ => h, fun _ _ _ h _ => h, fun _ _ _ h _ => h, fun _ _ _ h _ => h, fun _ _ _ h _ => h, fun _ _ _ h _ => h, fun _ _ _ h _ => h, fun _ _ _ h _ => h, trivial⟩ []
        ⟨?_, ?_, ?_, ?_, ?_, ?_, ?_, ?_, ?_, ?_, ?_, ?_, ?_, ?_, ?_, ?_, ?_, ?_, ?_, ?_, ?_, ?_, ?_, ?_, ?_, ?_, ?_, ?_, ?_, ?_, ?_, ?_, ?_, ?_, trivial⟩ ?_
      · refine showA_op 0 (by intro _ _ _; kernel_rfl) rfl rfl (fun c vals w hC hD => ?_)
        clear hD
        refine makes1 (x := .tmp 4) (X := Value.int .i64 ((t : Nat) : Int)) (by kernel_rfl : _ = (Value.int .i64 ((t : Nat) : Int) : Value)) (fun ρ rc rf q4 => ?_)
        exact makes_move (.inl rfl) q4 ⟨Adds.refl _, rfl⟩
      · refine showA_op 1 (by intro _ _ _; kernel_rfl) rfl rfl (fun c vals w hC hD => ?_)
        clear hD
        refine makes1 (x := .tmp 0) (X := Value.slice (some ⟨bk, off, none⟩) 64 cap) (by kernel_rfl : _ = (Value.slice (some ⟨bk, off, none⟩) 64 cap : Value)) (fun ρ rc rf q0 => ?_)
        exact makes_move (.inl rfl) q0 ⟨Adds.refl _, rfl⟩
      · refine showA_op 2 (by intro _ _ _; kernel_rfl) rfl rfl (fun c vals w hC hD => ?_)
        clear hD
        refine makes1 (x := .tmp 4) (X := Value.int .i64 ((t : Nat) : Int)) (by kernel_rfl : _ = (Value.int .i64 ((t : Nat) : Int) : Value)) (fun ρ rc rf q4 => ?_)
        exact makes_move (.inl rfl) q4 ⟨Adds.refl _, rfl⟩
      · refine showA_op 3 (by intro _ _ _; kernel_rfl) rfl rfl (fun c vals w hC hD => ?_)
        have h2 : vals 2 = .int .i64 ((t : Nat) : Int) := hD 2 rfl
        clear hD
        refine makes1 (x := .tmp 15) (X := Value.int .i64 ((t : Nat) : Int)) ((by kernel_rfl : _ = vals 2).trans h2) (fun ρ rc rf q15 => ?_)
        clear h2
        refine makes_value (v := Value.int .i64 ((4 * t : Nat) : Int)) ?_ ⟨Adds.refl _, rfl⟩
        go_simp
        all_goals first | done | rfl | (rw [if_pos (by omega)]; refine congrArg (fun x => Result.ok (Next.value (Value.pointer (some ⟨_, x, none⟩))) _) ?_; omega) | (rw [wrapP_i64]; omega) | go_num | (simp; done) | (simp; omega) | (congr 1; first | rfl | (rw [wrapP_i64]; omega) | (congr 1; first | rfl | (simp; done) | (simp; omega) | (congr 2; omega) | go_num))
      · refine showA_op 4 (by intro _ _ _; kernel_rfl) rfl rfl (fun c vals w hC hD => ?_)
        have h1 : vals 1 = .slice (some ⟨bk, off, none⟩) 64 cap := hD 1 rfl
        have h3 : vals 3 = .int .i64 ((4 * t : Nat) : Int) := hD 3 rfl
        clear hD
        refine makes2 (x := .tmp 14) (X := Value.slice (some ⟨bk, off, none⟩) 64 cap) (y := .tmp 16) (Y := Value.int .i64 ((4 * t : Nat) : Int)) ((by kernel_rfl : _ = vals 1).trans h1) ((by kernel_rfl : _ = vals 3).trans h3) (fun ρ rc rf q14 q16 => ?_)
        clear h1 h3
        refine makes_value (v := Value.pointer (some ⟨bk, off + (4 * t), none⟩)) ?_ ⟨Adds.refl _, rfl⟩
        go_simp
        all_goals first | done | rfl | (rw [if_pos (by omega)]; refine congrArg (fun x => Result.ok (Next.value (Value.pointer (some ⟨_, x, none⟩))) _) ?_; omega) | (rw [wrapP_i64]; omega) | go_num | (simp; done) | (simp; omega) | (congr 1; first | rfl | (rw [wrapP_i64]; omega) | (congr 1; first | rfl | (simp; done) | (simp; omega) | (congr 2; omega) | go_num))
      · refine showA_op 5 (by intro _ _ _; kernel_rfl) rfl rfl (fun c vals w hC hD => ?_)
        have h4 : vals 4 = .pointer (some ⟨bk, off + (4 * t), none⟩) := hD 4 rfl
        clear hD
        refine makes1 (x := .tmp 17) (X := Value.pointer (some ⟨bk, off + (4 * t), none⟩)) ((by kernel_rfl : _ = vals 4).trans h4) (fun ρ rc rf q17 => ?_)
        clear h4
        exact makes_load (bytes_load (hM.adds hC |>.bytes0 hv) (on_of rfl) (by omega)) rfl q17 ⟨Adds.refl _, rfl⟩
      · refine showA_op 6 (by intro _ _ _; kernel_rfl) rfl rfl (fun c vals w hC hD => ?_)
        have h5 : vals 5 = B8 (gb mm (4 * t)) := hD 5 rfl
        clear hD
        refine makes1 (x := .tmp 18) (X := B8 (gb mm (4 * t))) ((by kernel_rfl : _ = vals 5).trans h5) (fun ρ rc rf q18 => ?_)
        clear h5
        refine makes_value (v := W32 (((gb mm (4 * t))).toUInt32)) ?_ ⟨Adds.refl _, rfl⟩
        go_simp
        all_goals first | done | rfl | (rw [if_pos (by omega)]; refine congrArg (fun x => Result.ok (Next.value (Value.pointer (some ⟨_, x, none⟩))) _) ?_; omega) | (rw [wrapP_i64]; omega) | go_num | (simp; done) | (simp; omega) | (congr 1; first | rfl | (rw [wrapP_i64]; omega) | (congr 1; first | rfl | (simp; done) | (simp; omega) | (congr 2; omega) | go_num))
      · refine showA_op 7 (by intro _ _ _; kernel_rfl) rfl rfl (fun c vals w hC hD => ?_)
        have h6 : vals 6 = W32 (((gb mm (4 * t))).toUInt32) := hD 6 rfl
        clear hD
        refine makes1 (x := .tmp 19) (X := W32 (((gb mm (4 * t))).toUInt32)) ((by kernel_rfl : _ = vals 6).trans h6) (fun ρ rc rf q19 => ?_)
        clear h6
        refine makes_value (v := W32 ((((gb mm (4 * t))).toUInt32) <<< 24)) ?_ ⟨Adds.refl _, rfl⟩
        go_simp
        all_goals first | done | rfl | (rw [if_pos (by omega)]; refine congrArg (fun x => Result.ok (Next.value (Value.pointer (some ⟨_, x, none⟩))) _) ?_; omega) | (rw [wrapP_i64]; omega) | go_num | (simp; done) | (simp; omega) | (congr 1; first | rfl | (rw [wrapP_i64]; omega) | (congr 1; first | rfl | (simp; done) | (simp; omega) | (congr 2; omega) | go_num))
      · refine showA_op 8 (by intro _ _ _; kernel_rfl) rfl rfl (fun c vals w hC hD => ?_)
        clear hD
        refine makes1 (x := .tmp 0) (X := Value.slice (some ⟨bk, off, none⟩) 64 cap) (by kernel_rfl : _ = (Value.slice (some ⟨bk, off, none⟩) 64 cap : Value)) (fun ρ rc rf q0 => ?_)
        exact makes_move (.inl rfl) q0 ⟨Adds.refl _, rfl⟩
      · refine showA_op 9 (by intro _ _ _; kernel_rfl) rfl rfl (fun c vals w hC hD => ?_)
        clear hD
        refine makes1 (x := .tmp 4) (X := Value.int .i64 ((t : Nat) : Int)) (by kernel_rfl : _ = (Value.int .i64 ((t : Nat) : Int) : Value)) (fun ρ rc rf q4 => ?_)
        exact makes_move (.inl rfl) q4 ⟨Adds.refl _, rfl⟩
      · refine showA_op 10 (by intro _ _ _; kernel_rfl) rfl rfl (fun c vals w hC hD => ?_)
        have h9 : vals 9 = .int .i64 ((t : Nat) : Int) := hD 9 rfl
        clear hD
        refine makes1 (x := .tmp 22) (X := Value.int .i64 ((t : Nat) : Int)) ((by kernel_rfl : _ = vals 9).trans h9) (fun ρ rc rf q22 => ?_)
        clear h9
        refine makes_value (v := Value.int .i64 ((4 * t : Nat) : Int)) ?_ ⟨Adds.refl _, rfl⟩
        go_simp
        all_goals first | done | rfl | (rw [if_pos (by omega)]; refine congrArg (fun x => Result.ok (Next.value (Value.pointer (some ⟨_, x, none⟩))) _) ?_; omega) | (rw [wrapP_i64]; omega) | go_num | (simp; done) | (simp; omega) | (congr 1; first | rfl | (rw [wrapP_i64]; omega) | (congr 1; first | rfl | (simp; done) | (simp; omega) | (congr 2; omega) | go_num))
      · refine showA_op 11 (by intro _ _ _; kernel_rfl) rfl rfl (fun c vals w hC hD => ?_)
        have h10 : vals 10 = .int .i64 ((4 * t : Nat) : Int) := hD 10 rfl
        clear hD
        refine makes1 (x := .tmp 23) (X := Value.int .i64 ((4 * t : Nat) : Int)) ((by kernel_rfl : _ = vals 10).trans h10) (fun ρ rc rf q23 => ?_)
        clear h10
        refine makes_value (v := Value.int .i64 (((4 * t) + 1 : Nat) : Int)) ?_ ⟨Adds.refl _, rfl⟩
        go_simp
        all_goals first | done | rfl | (rw [if_pos (by omega)]; refine congrArg (fun x => Result.ok (Next.value (Value.pointer (some ⟨_, x, none⟩))) _) ?_; omega) | (rw [wrapP_i64]; omega) | go_num | (simp; done) | (simp; omega) | (congr 1; first | rfl | (rw [wrapP_i64]; omega) | (congr 1; first | rfl | (simp; done) | (simp; omega) | (congr 2; omega) | go_num))
      · refine showA_op 12 (by intro _ _ _; kernel_rfl) rfl rfl (fun c vals w hC hD => ?_)
        have h8 : vals 8 = .slice (some ⟨bk, off, none⟩) 64 cap := hD 8 rfl
        have h11 : vals 11 = .int .i64 (((4 * t) + 1 : Nat) : Int) := hD 11 rfl
        clear hD
        refine makes2 (x := .tmp 21) (X := Value.slice (some ⟨bk, off, none⟩) 64 cap) (y := .tmp 24) (Y := Value.int .i64 (((4 * t) + 1 : Nat) : Int)) ((by kernel_rfl : _ = vals 8).trans h8) ((by kernel_rfl : _ = vals 11).trans h11) (fun ρ rc rf q21 q24 => ?_)
        clear h8 h11
        refine makes_value (v := Value.pointer (some ⟨bk, off + ((4 * t) + 1), none⟩)) ?_ ⟨Adds.refl _, rfl⟩
        go_simp
        all_goals first | done | rfl | (rw [if_pos (by omega)]; refine congrArg (fun x => Result.ok (Next.value (Value.pointer (some ⟨_, x, none⟩))) _) ?_; omega) | (rw [wrapP_i64]; omega) | go_num | (simp; done) | (simp; omega) | (congr 1; first | rfl | (rw [wrapP_i64]; omega) | (congr 1; first | rfl | (simp; done) | (simp; omega) | (congr 2; omega) | go_num))
      · refine showA_op 13 (by intro _ _ _; kernel_rfl) rfl rfl (fun c vals w hC hD => ?_)
        have h12 : vals 12 = .pointer (some ⟨bk, off + ((4 * t) + 1), none⟩) := hD 12 rfl
        clear hD
        refine makes1 (x := .tmp 25) (X := Value.pointer (some ⟨bk, off + ((4 * t) + 1), none⟩)) ((by kernel_rfl : _ = vals 12).trans h12) (fun ρ rc rf q25 => ?_)
        clear h12
        exact makes_load (bytes_load (hM.adds hC |>.bytes0 hv) (on_of rfl) (by omega)) rfl q25 ⟨Adds.refl _, rfl⟩
      · refine showA_op 14 (by intro _ _ _; kernel_rfl) rfl rfl (fun c vals w hC hD => ?_)
        have h13 : vals 13 = B8 (gb mm ((4 * t) + 1)) := hD 13 rfl
        clear hD
        refine makes1 (x := .tmp 26) (X := B8 (gb mm ((4 * t) + 1))) ((by kernel_rfl : _ = vals 13).trans h13) (fun ρ rc rf q26 => ?_)
        clear h13
        refine makes_value (v := W32 (((gb mm ((4 * t) + 1))).toUInt32)) ?_ ⟨Adds.refl _, rfl⟩
        go_simp
        all_goals first | done | rfl | (rw [if_pos (by omega)]; refine congrArg (fun x => Result.ok (Next.value (Value.pointer (some ⟨_, x, none⟩))) _) ?_; omega) | (rw [wrapP_i64]; omega) | go_num | (simp; done) | (simp; omega) | (congr 1; first | rfl | (rw [wrapP_i64]; omega) | (congr 1; first | rfl | (simp; done) | (simp; omega) | (congr 2; omega) | go_num))
      · refine showA_op 15 (by intro _ _ _; kernel_rfl) rfl rfl (fun c vals w hC hD => ?_)
        have h14 : vals 14 = W32 (((gb mm ((4 * t) + 1))).toUInt32) := hD 14 rfl
        clear hD
        refine makes1 (x := .tmp 27) (X := W32 (((gb mm ((4 * t) + 1))).toUInt32)) ((by kernel_rfl : _ = vals 14).trans h14) (fun ρ rc rf q27 => ?_)
        clear h14
        refine makes_value (v := W32 ((((gb mm ((4 * t) + 1))).toUInt32) <<< 16)) ?_ ⟨Adds.refl _, rfl⟩
        go_simp
        all_goals first | done | rfl | (rw [if_pos (by omega)]; refine congrArg (fun x => Result.ok (Next.value (Value.pointer (some ⟨_, x, none⟩))) _) ?_; omega) | (rw [wrapP_i64]; omega) | go_num | (simp; done) | (simp; omega) | (congr 1; first | rfl | (rw [wrapP_i64]; omega) | (congr 1; first | rfl | (simp; done) | (simp; omega) | (congr 2; omega) | go_num))
      · refine showA_op 16 (by intro _ _ _; kernel_rfl) rfl rfl (fun c vals w hC hD => ?_)
        have h7 : vals 7 = W32 ((((gb mm (4 * t))).toUInt32) <<< 24) := hD 7 rfl
        have h15 : vals 15 = W32 ((((gb mm ((4 * t) + 1))).toUInt32) <<< 16) := hD 15 rfl
        clear hD
        refine makes2 (x := .tmp 20) (X := W32 ((((gb mm (4 * t))).toUInt32) <<< 24)) (y := .tmp 28) (Y := W32 ((((gb mm ((4 * t) + 1))).toUInt32) <<< 16)) ((by kernel_rfl : _ = vals 7).trans h7) ((by kernel_rfl : _ = vals 15).trans h15) (fun ρ rc rf q20 q28 => ?_)
        clear h7 h15
        refine makes_value (v := W32 (((((gb mm (4 * t))).toUInt32) <<< 24) ||| ((((gb mm ((4 * t) + 1))).toUInt32) <<< 16))) ?_ ⟨Adds.refl _, rfl⟩
        go_simp
        all_goals first | done | rfl | (rw [if_pos (by omega)]; refine congrArg (fun x => Result.ok (Next.value (Value.pointer (some ⟨_, x, none⟩))) _) ?_; omega) | (rw [wrapP_i64]; omega) | go_num | (simp; done) | (simp; omega) | (congr 1; first | rfl | (rw [wrapP_i64]; omega) | (congr 1; first | rfl | (simp; done) | (simp; omega) | (congr 2; omega) | go_num))
      · refine showA_op 17 (by intro _ _ _; kernel_rfl) rfl rfl (fun c vals w hC hD => ?_)
        clear hD
        refine makes1 (x := .tmp 0) (X := Value.slice (some ⟨bk, off, none⟩) 64 cap) (by kernel_rfl : _ = (Value.slice (some ⟨bk, off, none⟩) 64 cap : Value)) (fun ρ rc rf q0 => ?_)
        exact makes_move (.inl rfl) q0 ⟨Adds.refl _, rfl⟩
      · refine showA_op 18 (by intro _ _ _; kernel_rfl) rfl rfl (fun c vals w hC hD => ?_)
        clear hD
        refine makes1 (x := .tmp 4) (X := Value.int .i64 ((t : Nat) : Int)) (by kernel_rfl : _ = (Value.int .i64 ((t : Nat) : Int) : Value)) (fun ρ rc rf q4 => ?_)
        exact makes_move (.inl rfl) q4 ⟨Adds.refl _, rfl⟩
      · refine showA_op 19 (by intro _ _ _; kernel_rfl) rfl rfl (fun c vals w hC hD => ?_)
        have h18 : vals 18 = .int .i64 ((t : Nat) : Int) := hD 18 rfl
        clear hD
        refine makes1 (x := .tmp 31) (X := Value.int .i64 ((t : Nat) : Int)) ((by kernel_rfl : _ = vals 18).trans h18) (fun ρ rc rf q31 => ?_)
        clear h18
        refine makes_value (v := Value.int .i64 ((4 * t : Nat) : Int)) ?_ ⟨Adds.refl _, rfl⟩
        go_simp
        all_goals first | done | rfl | (rw [if_pos (by omega)]; refine congrArg (fun x => Result.ok (Next.value (Value.pointer (some ⟨_, x, none⟩))) _) ?_; omega) | (rw [wrapP_i64]; omega) | go_num | (simp; done) | (simp; omega) | (congr 1; first | rfl | (rw [wrapP_i64]; omega) | (congr 1; first | rfl | (simp; done) | (simp; omega) | (congr 2; omega) | go_num))
      · refine showA_op 20 (by intro _ _ _; kernel_rfl) rfl rfl (fun c vals w hC hD => ?_)
        have h19 : vals 19 = .int .i64 ((4 * t : Nat) : Int) := hD 19 rfl
        clear hD
        refine makes1 (x := .tmp 32) (X := Value.int .i64 ((4 * t : Nat) : Int)) ((by kernel_rfl : _ = vals 19).trans h19) (fun ρ rc rf q32 => ?_)
        clear h19
        refine makes_value (v := Value.int .i64 (((4 * t) + 2 : Nat) : Int)) ?_ ⟨Adds.refl _, rfl⟩
        go_simp
        all_goals first | done | rfl | (rw [if_pos (by omega)]; refine congrArg (fun x => Result.ok (Next.value (Value.pointer (some ⟨_, x, none⟩))) _) ?_; omega) | (rw [wrapP_i64]; omega) | go_num | (simp; done) | (simp; omega) | (congr 1; first | rfl | (rw [wrapP_i64]; omega) | (congr 1; first | rfl | (simp; done) | (simp; omega) | (congr 2; omega) | go_num))
      · refine showA_op 21 (by intro _ _ _; kernel_rfl) rfl rfl (fun c vals w hC hD => ?_)
        have h17 : vals 17 = .slice (some ⟨bk, off, none⟩) 64 cap := hD 17 rfl
        have h20 : vals 20 = .int .i64 (((4 * t) + 2 : Nat) : Int) := hD 20 rfl
        clear hD
        refine makes2 (x := .tmp 30) (X := Value.slice (some ⟨bk, off, none⟩) 64 cap) (y := .tmp 33) (Y := Value.int .i64 (((4 * t) + 2 : Nat) : Int)) ((by kernel_rfl : _ = vals 17).trans h17) ((by kernel_rfl : _ = vals 20).trans h20) (fun ρ rc rf q30 q33 => ?_)
        clear h17 h20
        refine makes_value (v := Value.pointer (some ⟨bk, off + ((4 * t) + 2), none⟩)) ?_ ⟨Adds.refl _, rfl⟩
        go_simp
        all_goals first | done | rfl | (rw [if_pos (by omega)]; refine congrArg (fun x => Result.ok (Next.value (Value.pointer (some ⟨_, x, none⟩))) _) ?_; omega) | (rw [wrapP_i64]; omega) | go_num | (simp; done) | (simp; omega) | (congr 1; first | rfl | (rw [wrapP_i64]; omega) | (congr 1; first | rfl | (simp; done) | (simp; omega) | (congr 2; omega) | go_num))
      · refine showA_op 22 (by intro _ _ _; kernel_rfl) rfl rfl (fun c vals w hC hD => ?_)
        have h21 : vals 21 = .pointer (some ⟨bk, off + ((4 * t) + 2), none⟩) := hD 21 rfl
        clear hD
        refine makes1 (x := .tmp 34) (X := Value.pointer (some ⟨bk, off + ((4 * t) + 2), none⟩)) ((by kernel_rfl : _ = vals 21).trans h21) (fun ρ rc rf q34 => ?_)
        clear h21
        exact makes_load (bytes_load (hM.adds hC |>.bytes0 hv) (on_of rfl) (by omega)) rfl q34 ⟨Adds.refl _, rfl⟩
      · refine showA_op 23 (by intro _ _ _; kernel_rfl) rfl rfl (fun c vals w hC hD => ?_)
        have h22 : vals 22 = B8 (gb mm ((4 * t) + 2)) := hD 22 rfl
        clear hD
        refine makes1 (x := .tmp 35) (X := B8 (gb mm ((4 * t) + 2))) ((by kernel_rfl : _ = vals 22).trans h22) (fun ρ rc rf q35 => ?_)
        clear h22
        refine makes_value (v := W32 (((gb mm ((4 * t) + 2))).toUInt32)) ?_ ⟨Adds.refl _, rfl⟩
        go_simp
        all_goals first | done | rfl | (rw [if_pos (by omega)]; refine congrArg (fun x => Result.ok (Next.value (Value.pointer (some ⟨_, x, none⟩))) _) ?_; omega) | (rw [wrapP_i64]; omega) | go_num | (simp; done) | (simp; omega) | (congr 1; first | rfl | (rw [wrapP_i64]; omega) | (congr 1; first | rfl | (simp; done) | (simp; omega) | (congr 2; omega) | go_num))
      · refine showA_op 24 (by intro _ _ _; kernel_rfl) rfl rfl (fun c vals w hC hD => ?_)
        have h23 : vals 23 = W32 (((gb mm ((4 * t) + 2))).toUInt32) := hD 23 rfl
        clear hD
        refine makes1 (x := .tmp 36) (X := W32 (((gb mm ((4 * t) + 2))).toUInt32)) ((by kernel_rfl : _ = vals 23).trans h23) (fun ρ rc rf q36 => ?_)
        clear h23
        refine makes_value (v := W32 ((((gb mm ((4 * t) + 2))).toUInt32) <<< 8)) ?_ ⟨Adds.refl _, rfl⟩
        go_simp
        all_goals first | done | rfl | (rw [if_pos (by omega)]; refine congrArg (fun x => Result.ok (Next.value (Value.pointer (some ⟨_, x, none⟩))) _) ?_; omega) | (rw [wrapP_i64]; omega) | go_num | (simp; done) | (simp; omega) | (congr 1; first | rfl | (rw [wrapP_i64]; omega) | (congr 1; first | rfl | (simp; done) | (simp; omega) | (congr 2; omega) | go_num))
      · refine showA_op 25 (by intro _ _ _; kernel_rfl) rfl rfl (fun c vals w hC hD => ?_)
        have h16 : vals 16 = W32 (((((gb mm (4 * t))).toUInt32) <<< 24) ||| ((((gb mm ((4 * t) + 1))).toUInt32) <<< 16)) := hD 16 rfl
        have h24 : vals 24 = W32 ((((gb mm ((4 * t) + 2))).toUInt32) <<< 8) := hD 24 rfl
        clear hD
        refine makes2 (x := .tmp 29) (X := W32 (((((gb mm (4 * t))).toUInt32) <<< 24) ||| ((((gb mm ((4 * t) + 1))).toUInt32) <<< 16))) (y := .tmp 37) (Y := W32 ((((gb mm ((4 * t) + 2))).toUInt32) <<< 8)) ((by kernel_rfl : _ = vals 16).trans h16) ((by kernel_rfl : _ = vals 24).trans h24) (fun ρ rc rf q29 q37 => ?_)
        clear h16 h24
        refine makes_value (v := W32 ((((((gb mm (4 * t))).toUInt32) <<< 24) ||| ((((gb mm ((4 * t) + 1))).toUInt32) <<< 16)) ||| ((((gb mm ((4 * t) + 2))).toUInt32) <<< 8))) ?_ ⟨Adds.refl _, rfl⟩
        go_simp
        all_goals first | done | rfl | (rw [if_pos (by omega)]; refine congrArg (fun x => Result.ok (Next.value (Value.pointer (some ⟨_, x, none⟩))) _) ?_; omega) | (rw [wrapP_i64]; omega) | go_num | (simp; done) | (simp; omega) | (congr 1; first | rfl | (rw [wrapP_i64]; omega) | (congr 1; first | rfl | (simp; done) | (simp; omega) | (congr 2; omega) | go_num))
      · refine showA_op 26 (by intro _ _ _; kernel_rfl) rfl rfl (fun c vals w hC hD => ?_)
        clear hD
        refine makes1 (x := .tmp 0) (X := Value.slice (some ⟨bk, off, none⟩) 64 cap) (by kernel_rfl : _ = (Value.slice (some ⟨bk, off, none⟩) 64 cap : Value)) (fun ρ rc rf q0 => ?_)
        exact makes_move (.inl rfl) q0 ⟨Adds.refl _, rfl⟩
      · refine showA_op 27 (by intro _ _ _; kernel_rfl) rfl rfl (fun c vals w hC hD => ?_)
        clear hD
        refine makes1 (x := .tmp 4) (X := Value.int .i64 ((t : Nat) : Int)) (by kernel_rfl : _ = (Value.int .i64 ((t : Nat) : Int) : Value)) (fun ρ rc rf q4 => ?_)
        exact makes_move (.inl rfl) q4 ⟨Adds.refl _, rfl⟩
      · refine showA_op 28 (by intro _ _ _; kernel_rfl) rfl rfl (fun c vals w hC hD => ?_)
        have h27 : vals 27 = .int .i64 ((t : Nat) : Int) := hD 27 rfl
        clear hD
        refine makes1 (x := .tmp 40) (X := Value.int .i64 ((t : Nat) : Int)) ((by kernel_rfl : _ = vals 27).trans h27) (fun ρ rc rf q40 => ?_)
        clear h27
        refine makes_value (v := Value.int .i64 ((4 * t : Nat) : Int)) ?_ ⟨Adds.refl _, rfl⟩
        go_simp
        all_goals first | done | rfl | (rw [if_pos (by omega)]; refine congrArg (fun x => Result.ok (Next.value (Value.pointer (some ⟨_, x, none⟩))) _) ?_; omega) | (rw [wrapP_i64]; omega) | go_num | (simp; done) | (simp; omega) | (congr 1; first | rfl | (rw [wrapP_i64]; omega) | (congr 1; first | rfl | (simp; done) | (simp; omega) | (congr 2; omega) | go_num))
      · refine showA_op 29 (by intro _ _ _; kernel_rfl) rfl rfl (fun c vals w hC hD => ?_)
        have h28 : vals 28 = .int .i64 ((4 * t : Nat) : Int) := hD 28 rfl
        clear hD
        refine makes1 (x := .tmp 41) (X := Value.int .i64 ((4 * t : Nat) : Int)) ((by kernel_rfl : _ = vals 28).trans h28) (fun ρ rc rf q41 => ?_)
        clear h28
        refine makes_value (v := Value.int .i64 (((4 * t) + 3 : Nat) : Int)) ?_ ⟨Adds.refl _, rfl⟩
        go_simp
        all_goals first | done | rfl | (rw [if_pos (by omega)]; refine congrArg (fun x => Result.ok (Next.value (Value.pointer (some ⟨_, x, none⟩))) _) ?_; omega) | (rw [wrapP_i64]; omega) | go_num | (simp; done) | (simp; omega) | (congr 1; first | rfl | (rw [wrapP_i64]; omega) | (congr 1; first | rfl | (simp; done) | (simp; omega) | (congr 2; omega) | go_num))
      · refine showA_op 30 (by intro _ _ _; kernel_rfl) rfl rfl (fun c vals w hC hD => ?_)
        have h26 : vals 26 = .slice (some ⟨bk, off, none⟩) 64 cap := hD 26 rfl
        have h29 : vals 29 = .int .i64 (((4 * t) + 3 : Nat) : Int) := hD 29 rfl
        clear hD
        refine makes2 (x := .tmp 39) (X := Value.slice (some ⟨bk, off, none⟩) 64 cap) (y := .tmp 42) (Y := Value.int .i64 (((4 * t) + 3 : Nat) : Int)) ((by kernel_rfl : _ = vals 26).trans h26) ((by kernel_rfl : _ = vals 29).trans h29) (fun ρ rc rf q39 q42 => ?_)
        clear h26 h29
        refine makes_value (v := Value.pointer (some ⟨bk, off + ((4 * t) + 3), none⟩)) ?_ ⟨Adds.refl _, rfl⟩
        go_simp
        all_goals first | done | rfl | (rw [if_pos (by omega)]; refine congrArg (fun x => Result.ok (Next.value (Value.pointer (some ⟨_, x, none⟩))) _) ?_; omega) | (rw [wrapP_i64]; omega) | go_num | (simp; done) | (simp; omega) | (congr 1; first | rfl | (rw [wrapP_i64]; omega) | (congr 1; first | rfl | (simp; done) | (simp; omega) | (congr 2; omega) | go_num))
      · refine showA_op 31 (by intro _ _ _; kernel_rfl) rfl rfl (fun c vals w hC hD => ?_)
        have h30 : vals 30 = .pointer (some ⟨bk, off + ((4 * t) + 3), none⟩) := hD 30 rfl
        clear hD
        refine makes1 (x := .tmp 43) (X := Value.pointer (some ⟨bk, off + ((4 * t) + 3), none⟩)) ((by kernel_rfl : _ = vals 30).trans h30) (fun ρ rc rf q43 => ?_)
        clear h30
        exact makes_load (bytes_load (hM.adds hC |>.bytes0 hv) (on_of rfl) (by omega)) rfl q43 ⟨Adds.refl _, rfl⟩
      · refine showA_op 32 (by intro _ _ _; kernel_rfl) rfl rfl (fun c vals w hC hD => ?_)
        have h31 : vals 31 = B8 (gb mm ((4 * t) + 3)) := hD 31 rfl
        clear hD
        refine makes1 (x := .tmp 44) (X := B8 (gb mm ((4 * t) + 3))) ((by kernel_rfl : _ = vals 31).trans h31) (fun ρ rc rf q44 => ?_)
        clear h31
        refine makes_value (v := W32 (((gb mm ((4 * t) + 3))).toUInt32)) ?_ ⟨Adds.refl _, rfl⟩
        go_simp
        all_goals first | done | rfl | (rw [if_pos (by omega)]; refine congrArg (fun x => Result.ok (Next.value (Value.pointer (some ⟨_, x, none⟩))) _) ?_; omega) | (rw [wrapP_i64]; omega) | go_num | (simp; done) | (simp; omega) | (congr 1; first | rfl | (rw [wrapP_i64]; omega) | (congr 1; first | rfl | (simp; done) | (simp; omega) | (congr 2; omega) | go_num))
      · refine showA_op 33 (by intro _ _ _; kernel_rfl) rfl rfl (fun c vals w hC hD => ?_)
        have h25 : vals 25 = W32 ((((((gb mm (4 * t))).toUInt32) <<< 24) ||| ((((gb mm ((4 * t) + 1))).toUInt32) <<< 16)) ||| ((((gb mm ((4 * t) + 2))).toUInt32) <<< 8)) := hD 25 rfl
        have h32 : vals 32 = W32 (((gb mm ((4 * t) + 3))).toUInt32) := hD 32 rfl
        clear hD
        refine makes2 (x := .tmp 38) (X := W32 ((((((gb mm (4 * t))).toUInt32) <<< 24) ||| ((((gb mm ((4 * t) + 1))).toUInt32) <<< 16)) ||| ((((gb mm ((4 * t) + 2))).toUInt32) <<< 8))) (y := .tmp 45) (Y := W32 (((gb mm ((4 * t) + 3))).toUInt32)) ((by kernel_rfl : _ = vals 25).trans h25) ((by kernel_rfl : _ = vals 32).trans h32) (fun ρ rc rf q38 q45 => ?_)
        clear h25 h32
        refine makes_value (v := W32 (((((((gb mm (4 * t))).toUInt32) <<< 24) ||| ((((gb mm ((4 * t) + 1))).toUInt32) <<< 16)) ||| ((((gb mm ((4 * t) + 2))).toUInt32) <<< 8)) ||| (((gb mm ((4 * t) + 3))).toUInt32))) ?_ ⟨Adds.refl _, rfl⟩
        go_simp
        all_goals first | done | rfl | (rw [if_pos (by omega)]; refine congrArg (fun x => Result.ok (Next.value (Value.pointer (some ⟨_, x, none⟩))) _) ?_; omega) | (rw [wrapP_i64]; omega) | go_num | (simp; done) | (simp; omega) | (congr 1; first | rfl | (rw [wrapP_i64]; omega) | (congr 1; first | rfl | (simp; done) | (simp; omega) | (congr 2; omega) | go_num))
      intro vals w' hC hΦ hne
      have h0 : vals 0 = .int .i64 ((t : Nat) : Int) := hΦ 0 (by decide)
      have h33 : vals 33 = W32 (((((((gb mm (4 * t))).toUInt32) <<< 24) ||| ((((gb mm ((4 * t) + 1))).toUInt32) <<< 16)) ||| ((((gb mm ((4 * t) + 2))).toUInt32) <<< 8)) ||| (((gb mm ((4 * t) + 3))).toUInt32)) := hΦ 33 (by decide)
      clear hΦ hne
      simp only [List.getD_eq_getElem?_getD, List.getElem?_cons_zero, List.getElem?_cons_succ, Option.getD_some, List.drop_succ_cons, List.drop_zero]
      simp only [h0, h33]
      clear h0 h33
      try simp only [tuple_undef]
      replace hM := hM.adds hC
      clear hC
      go_wp2_with (first | go_skip | ((first | (with_reducible refine gL_load ?_) | ((with_reducible refine gG_load ?_ ?_); (exact wanted_of rfl rfl rfl rfl rfl))); refine ⟨_, _, rfl, (by (first | (assumption) | (exact hM.loads_B8 (by (repeat (first | exact .head _ | apply List.Mem.tail)); done) (on_of rfl) (by first | omega | (simp only [Len] at *; omega) | (simp; omega))) | (exact hM.loads_all (by (repeat (first | exact .head _ | apply List.Mem.tail)); done) (ag_of rfl) (by first | assumption | exact Len.map (by assumption) _ | rfl | exact Len.map (by rfl) _ | exact Len.of (by simp; done))) | (exact hM.loads_one (by (repeat (first | exact .head _ | apply List.Mem.tail)); done) (on_of rfl) rfl) | (exact hM.loads_W32 (by (repeat (first | exact .head _ | apply List.Mem.tail)); done) (on_of rfl) (by first | omega | (simp only [Len] at *; omega) | (simp; omega))) | (exact loads_cell (by assumption) (on_of rfl)))), ?_⟩) | ((with_reducible refine gL_store hM ?_); refine ⟨_, _, _, rfl, rfl, (by (first | (exact hM.stores_B8 (by first | exact (rfl : B8 _ = B8 _) | exact lit8 _ (by decide)) (by (repeat (first | exact .here _ _ _ | apply Has.there)); done) (on_of rfl) (by first | omega | (simp only [Len] at *; omega) | (simp; omega))) | (exact hM.stores_all (by (repeat (first | exact .here _ _ _ | apply Has.there)); done) (ag_of rfl) (by first | assumption | exact Len.map (by assumption) _ | rfl | exact Len.map (by rfl) _ | exact Len.of (by simp; done)) (by first | assumption | exact Len.map (by assumption) _ | rfl | exact Len.map (by rfl) _ | exact Len.of (by simp; done)) (by first | exact B8_one | exact W32_one | exact one_of_all rfl)) | (exact hM.stores_W32 rfl (by (repeat (first | exact .here _ _ _ | apply Has.there)); done) (on_of rfl) (by first | omega | (simp only [Len] at *; omega) | (simp; omega))) | (exact hM.stores_one (by (repeat (first | exact .here _ _ _ | apply Has.there)); done) (on_of rfl) (by first | omega | (simp only [Len] at *; omega) | (simp; omega)) rfl rfl))), ?_⟩; intro _ hM2; clear hM; have hM := hM2; clear hM2) | ((with_reducible refine gL_alloc hM ?_); refine ⟨_, _, (zr_of rfl), ?_⟩; intro _ _ hM2; clear hM; have hM := hM2; clear hM2) | ((with_reducible refine gL_box hM ?_); refine ⟨_, _, _, rfl, rfl, (by first | assumption | exact Len.map (by assumption) _ | rfl | exact Len.map (by rfl) _ | exact Len.of (by simp; done)), ?_⟩; intro _ _ hM2; clear hM; have hM := hM2; clear hM2) | ((with_reducible refine gL_build0 ?_); refine ⟨_, _, _, _, _, _, (zr_of rfl), (ua_of rfl), (ag_of rfl), (el_of rfl), ?_⟩) | ((with_reducible refine gL_buildBytes hM ?_); refine ⟨_, _, (us_of rfl), (el_of rfl), (by decide), (by decide), rfl, (by (repeat (first | exact EvB.nil | apply EvB.cons rfl (by first | exact (rfl : B8 _ = B8 _) | exact lit8 _ (by decide)))); done), ?_⟩; intro _ _ hM2; clear hM; have hM := hM2; clear hM2) | ((with_reducible refine gL_append_B hM ?_); refine ⟨_, _, _, _, _, _, _, _, _, _, rfl, rfl, (by first | exact (rfl : Value.slice (some ⟨_, 0, none⟩) _ _ = sl (some _) _ _) | exact (rfl : Value.slice none _ _ = sl none _ _) | rfl), (us_of rfl), (el_of rfl), (by first | exact hM.src (by (repeat (first | exact .head _ | apply List.Mem.tail)); done) | exact (hM.bytes0 (by assumption)).src), (fun _ _ => by (repeat (first | exact .here _ _ _ | apply Swap.there)); done), (by first | assumption | exact Len.map (by assumption) _ | rfl | exact Len.map (by rfl) _ | exact Len.of (by simp; done)), (by first | assumption | exact Len.map (by assumption) _ | rfl | exact Len.map (by rfl) _ | exact Len.of (by simp; done)), (by first | assumption | (simp [maxLen]; done) | omega | (simp [maxLen]; omega)), (by first | omega | (simp only [Len] at *; omega) | (simp; omega)), ?_⟩; intro _ _ _ hM2 _ _; clear hM; have hM := hM2; clear hM2) | ((first | (with_reducible refine gL_field ?_) | ((with_reducible refine gG_field ?_ ?_); (exact wanted_of rfl rfl rfl rfl rfl))); refine ⟨_, _, rfl, (by (first | (exact field_one (fb_of rfl) rfl) | (exact field_agg (fa_of rfl) rfl))), ?_⟩))
      rw [show ((gb mm (4 * t)).toUInt32 <<< 24 ||| (gb mm (4 * t + 1)).toUInt32 <<< 16 ||| (gb mm (4 * t + 2)).toUInt32 <<< 8 ||| (gb mm (4 * t + 3)).toUInt32) = Sha.be mm t from rfl, HS.out] at hM
      go_roundw
      case rel => exact ⟨t + 1, by omega, by go_num, hM⟩
      case measure => simp [intOf]; omega
    · have : t = 16 := by omega
      subst this
      go_wp2_with (first | go_skip | ((first | (with_reducible refine gL_load ?_) | ((with_reducible refine gG_load ?_ ?_); (exact wanted_of rfl rfl rfl rfl rfl))); refine ⟨_, _, rfl, (by (first | (assumption) | (exact hM.loads_B8 (by (repeat (first | exact .head _ | apply List.Mem.tail)); done) (on_of rfl) (by first | omega | (simp only [Len] at *; omega) | (simp; omega))) | (exact hM.loads_all (by (repeat (first | exact .head _ | apply List.Mem.tail)); done) (ag_of rfl) (by first | assumption | exact Len.map (by assumption) _ | rfl | exact Len.map (by rfl) _ | exact Len.of (by simp; done))) | (exact hM.loads_one (by (repeat (first | exact .head _ | apply List.Mem.tail)); done) (on_of rfl) rfl) | (exact hM.loads_W32 (by (repeat (first | exact .head _ | apply List.Mem.tail)); done) (on_of rfl) (by first | omega | (simp only [Len] at *; omega) | (simp; omega))) | (exact loads_cell (by assumption) (on_of rfl)))), ?_⟩) | ((with_reducible refine gL_store hM ?_); refine ⟨_, _, _, rfl, rfl, (by (first | (exact hM.stores_B8 (by first | exact (rfl : B8 _ = B8 _) | exact lit8 _ (by decide)) (by (repeat (first | exact .here _ _ _ | apply Has.there)); done) (on_of rfl) (by first | omega | (simp only [Len] at *; omega) | (simp; omega))) | (exact hM.stores_all (by (repeat (first | exact .here _ _ _ | apply Has.there)); done) (ag_of rfl) (by first | assumption | exact Len.map (by assumption) _ | rfl | exact Len.map (by rfl) _ | exact Len.of (by simp; done)) (by first | assumption | exact Len.map (by assumption) _ | rfl | exact Len.map (by rfl) _ | exact Len.of (by simp; done)) (by first | exact B8_one | exact W32_one | exact one_of_all rfl)) | (exact hM.stores_W32 rfl (by (repeat (first | exact .here _ _ _ | apply Has.there)); done) (on_of rfl) (by first | omega | (simp only [Len] at *; omega) | (simp; omega))) | (exact hM.stores_one (by (repeat (first | exact .here _ _ _ | apply Has.there)); done) (on_of rfl) (by first | omega | (simp only [Len] at *; omega) | (simp; omega)) rfl rfl))), ?_⟩; intro _ hM2; clear hM; have hM := hM2; clear hM2) | ((with_reducible refine gL_alloc hM ?_); refine ⟨_, _, (zr_of rfl), ?_⟩; intro _ _ hM2; clear hM; have hM := hM2; clear hM2) | ((with_reducible refine gL_box hM ?_); refine ⟨_, _, _, rfl, rfl, (by first | assumption | exact Len.map (by assumption) _ | rfl | exact Len.map (by rfl) _ | exact Len.of (by simp; done)), ?_⟩; intro _ _ hM2; clear hM; have hM := hM2; clear hM2) | ((with_reducible refine gL_build0 ?_); refine ⟨_, _, _, _, _, _, (zr_of rfl), (ua_of rfl), (ag_of rfl), (el_of rfl), ?_⟩) | ((with_reducible refine gL_buildBytes hM ?_); refine ⟨_, _, (us_of rfl), (el_of rfl), (by decide), (by decide), rfl, (by (repeat (first | exact EvB.nil | apply EvB.cons rfl (by first | exact (rfl : B8 _ = B8 _) | exact lit8 _ (by decide)))); done), ?_⟩; intro _ _ hM2; clear hM; have hM := hM2; clear hM2) | ((with_reducible refine gL_append_B hM ?_); refine ⟨_, _, _, _, _, _, _, _, _, _, rfl, rfl, (by first | exact (rfl : Value.slice (some ⟨_, 0, none⟩) _ _ = sl (some _) _ _) | exact (rfl : Value.slice none _ _ = sl none _ _) | rfl), (us_of rfl), (el_of rfl), (by first | exact hM.src (by (repeat (first | exact .head _ | apply List.Mem.tail)); done) | exact (hM.bytes0 (by assumption)).src), (fun _ _ => by (repeat (first | exact .here _ _ _ | apply Swap.there)); done), (by first | assumption | exact Len.map (by assumption) _ | rfl | exact Len.map (by rfl) _ | exact Len.of (by simp; done)), (by first | assumption | exact Len.map (by assumption) _ | rfl | exact Len.map (by rfl) _ | exact Len.of (by simp; done)), (by first | assumption | (simp [maxLen]; done) | omega | (simp [maxLen]; omega)), (by first | omega | (simp only [Len] at *; omega) | (simp; omega)), ?_⟩; intro _ _ _ hM2 _ _; clear hM; have hM := hM2; clear hM2) | ((first | (with_reducible refine gL_field ?_) | ((with_reducible refine gG_field ?_ ?_); (exact wanted_of rfl rfl rfl rfl rfl))); refine ⟨_, _, rfl, (by (first | (exact field_one (fb_of rfl) rfl) | (exact field_agg (fa_of rfl) rfl))), ?_⟩))
      rw [show Value.int IntKind.i64 ((16 : Nat) : Int) = Value.int IntKind.i64 16 from rfl]
      go_loopw [5, 6, 7] (fun i _ _ wr => ∃ t : Nat, 16 ≤ t ∧ t ≤ 64 ∧ i = .int .i64 t ∧ Mem [] w0 wr [⟨some g3, 113, (Sha.laying mm t).map W32, 64⟩, ⟨some g2, 113, (List.replicate 64 (0 : UInt32)).map W32, 64⟩]) (fun i _ _ _ => 64 - (intOf i).toNat)
      case atStart => exact ⟨16, by omega, by omega, rfl, hM⟩
      case round =>
        clear hM
        obtain ⟨t, ht1, ht2, rfl, hM⟩ := hrel
        by_cases hlt : t < 64
        · have hti : (t : Int) < 64 := by omega
          have hl := Sha.laying_len mm t (by omega)
          generalize hA : Sha.laying mm t = A at *
          have HA : ∀ _ : Unit, Sha.laying mm t = A := fun _ => hA
          clear hA
          have HN : ∀ _ : Unit, A.set t (gw A (t - 16) + ((Sha.turned (gw A (t - 15)) 7 ^^^ Sha.turned (gw A (t - 15)) 18) ^^^ (gw A (t - 15)) >>> 3) + gw A (t - 7) + ((Sha.turned (gw A (t - 2)) 17 ^^^ Sha.turned (gw A (t - 2)) 19) ^^^ (gw A (t - 2)) >>> 10)) = Sha.laying mm (t + 1) := fun _ => by
            rw [← Sha.laying_set mm t (by omega), HA (), Sha.next, if_neg (by omega), ← Sha.laying_get mm (t := t) (i := t - 16) (by omega), ← Sha.laying_get mm (t := t) (i := t - 15) (by omega), ← Sha.laying_get mm (t := t) (i := t - 7) (by omega), ← Sha.laying_get mm (t := t) (i := t - 2) (by omega), HA ()]
            rfl
          go_wp2_with (first | go_skip | ((first | (with_reducible refine gL_load ?_) | ((with_reducible refine gG_load ?_ ?_); (exact wanted_of rfl rfl rfl rfl rfl))); refine ⟨_, _, rfl, (by (first | (assumption) | (exact hM.loads_B8 (by (repeat (first | exact .head _ | apply List.Mem.tail)); done) (on_of rfl) (by first | omega | (simp only [Len] at *; omega) | (simp; omega))) | (exact hM.loads_all (by (repeat (first | exact .head _ | apply List.Mem.tail)); done) (ag_of rfl) (by first | assumption | exact Len.map (by assumption) _ | rfl | exact Len.map (by rfl) _ | exact Len.of (by simp; done))) | (exact hM.loads_one (by (repeat (first | exact .head _ | apply List.Mem.tail)); done) (on_of rfl) rfl) | (exact hM.loads_W32 (by (repeat (first | exact .head _ | apply List.Mem.tail)); done) (on_of rfl) (by first | omega | (simp only [Len] at *; omega) | (simp; omega))) | (exact loads_cell (by assumption) (on_of rfl)))), ?_⟩) | ((with_reducible refine gL_store hM ?_); refine ⟨_, _, _, rfl, rfl, (by (first | (exact hM.stores_B8 (by first | exact (rfl : B8 _ = B8 _) | exact lit8 _ (by decide)) (by (repeat (first | exact .here _ _ _ | apply Has.there)); done) (on_of rfl) (by first | omega | (simp only [Len] at *; omega) | (simp; omega))) | (exact hM.stores_all (by (repeat (first | exact .here _ _ _ | apply Has.there)); done) (ag_of rfl) (by first | assumption | exact Len.map (by assumption) _ | rfl | exact Len.map (by rfl) _ | exact Len.of (by simp; done)) (by first | assumption | exact Len.map (by assumption) _ | rfl | exact Len.map (by rfl) _ | exact Len.of (by simp; done)) (by first | exact B8_one | exact W32_one | exact one_of_all rfl)) | (exact hM.stores_W32 rfl (by (repeat (first | exact .here _ _ _ | apply Has.there)); done) (on_of rfl) (by first | omega | (simp only [Len] at *; omega) | (simp; omega))) | (exact hM.stores_one (by (repeat (first | exact .here _ _ _ | apply Has.there)); done) (on_of rfl) (by first | omega | (simp only [Len] at *; omega) | (simp; omega)) rfl rfl))), ?_⟩; intro _ hM2; clear hM; have hM := hM2; clear hM2) | ((with_reducible refine gL_alloc hM ?_); refine ⟨_, _, (zr_of rfl), ?_⟩; intro _ _ hM2; clear hM; have hM := hM2; clear hM2) | ((with_reducible refine gL_box hM ?_); refine ⟨_, _, _, rfl, rfl, (by first | assumption | exact Len.map (by assumption) _ | rfl | exact Len.map (by rfl) _ | exact Len.of (by simp; done)), ?_⟩; intro _ _ hM2; clear hM; have hM := hM2; clear hM2) | ((with_reducible refine gL_build0 ?_); refine ⟨_, _, _, _, _, _, (zr_of rfl), (ua_of rfl), (ag_of rfl), (el_of rfl), ?_⟩) | ((with_reducible refine gL_buildBytes hM ?_); refine ⟨_, _, (us_of rfl), (el_of rfl), (by decide), (by decide), rfl, (by (repeat (first | exact EvB.nil | apply EvB.cons rfl (by first | exact (rfl : B8 _ = B8 _) | exact lit8 _ (by decide)))); done), ?_⟩; intro _ _ hM2; clear hM; have hM := hM2; clear hM2) | ((with_reducible refine gL_append_B hM ?_); refine ⟨_, _, _, _, _, _, _, _, _, _, rfl, rfl, (by first | exact (rfl : Value.slice (some ⟨_, 0, none⟩) _ _ = sl (some _) _ _) | exact (rfl : Value.slice none _ _ = sl none _ _) | rfl), (us_of rfl), (el_of rfl), (by first | exact hM.src (by (repeat (first | exact .head _ | apply List.Mem.tail)); done) | exact (hM.bytes0 (by assumption)).src), (fun _ _ => by (repeat (first | exact .here _ _ _ | apply Swap.there)); done), (by first | assumption | exact Len.map (by assumption) _ | rfl | exact Len.map (by rfl) _ | exact Len.of (by simp; done)), (by first | assumption | exact Len.map (by assumption) _ | rfl | exact Len.map (by rfl) _ | exact Len.of (by simp; done)), (by first | assumption | (simp [maxLen]; done) | omega | (simp [maxLen]; omega)), (by first | omega | (simp only [Len] at *; omega) | (simp; omega)), ?_⟩; intro _ _ _ hM2 _ _; clear hM; have hM := hM2; clear hM2) | ((first | (with_reducible refine gL_field ?_) | ((with_reducible refine gG_field ?_ ?_); (exact wanted_of rfl rfl rfl rfl rfl))); refine ⟨_, _, rfl, (by (first | (exact field_one (fb_of rfl) rfl) | (exact field_agg (fa_of rfl) rfl))), ?_⟩))
          try simp only [Act.put, List.setIfInBounds_toArray, List.set_cons_succ, List.set_cons_zero]
          refine wp_region_tail 10 (by decide) (fun c vals => ⟨#[c 0, c 1, c 2, (Value.pointer (some ⟨g3, 0, none⟩) : Value), c 4, (Value.int .i64 ((t : Nat) : Int) : Value), vals 8, vals 9, c 8, c 9, c 10, c 11, c 12, c 13, c 14, c 15, c 16, c 17, c 18, c 19, c 20, c 21, c 22, c 23, c 24, c 25, c 26, c 27, c 28, c 29, c 30, c 31, c 32, c 33, c 34, c 35, c 36, c 37, c 38, c 39, c 40, c 41, c 42, c 43, c 44, c 45, c 46, c 47, c 48, c 49, c 50, c 51, vals 0, vals 1, vals 2, vals 3, vals 4, vals 5, vals 6, vals 7, c 60, c 61, c 62, c 63, c 64, c 65, c 66, c 67, c 68, c 69, c 70, c 71, c 72, c 73, c 74, c 75, c 76, c 77, c 78, c 79, c 80, c 81, c 82, c 83, c 84, c 85, c 86, c 87, c 88, c 89, c 90, c 91], []⟩) (fun t => [_, _, _, undef, _, undef, undef, undef, _, _, _, _, _, _, _, _, _, _, _, _, _, _, _, _, _, _, _, _, _, _, _, _, _, _, _, _, _, _, _, _, _, _, _, _, _, _, _, _, _, _, _, _, undef, undef, undef, undef, undef, undef, undef, undef, _, _, _, _, _, _, _, _, _, _, _, _, _, _, _, _, _, _, _, _, _, _, _, _, _, _, _, _, _, _, _, _].getD t undef) (fun i => [_, _, _, _, _, _, _, _, _, _].getD i undef) (by kernel_rfl)
            [[], [0], [0, 1], [0, 1, 2], [], [4], [4, 5], [4, 5, 6], [0, 1, 2, 3], [0, 1, 2, 3, 4, 5, 6, 7, 8]] (by kernel_rfl) (by kernel_rfl) (fun _ => True) trivial
            [fun x _ => x = (Value.int .i64 ((t : Nat) : Int) : Value),
             fun x _ => x = (Value.int .i64 ((t - 15 : Nat) : Int) : Value),
             fun x _ => x = (Value.pointer (some ⟨g3, t - 15, none⟩) : Value),
             fun x _ => x = (W32 (gw A (t - 15)) : Value),
             fun x _ => x = (Value.int .i64 ((t : Nat) : Int) : Value),
             fun x _ => x = (Value.int .i64 ((t - 2 : Nat) : Int) : Value),
             fun x _ => x = (Value.pointer (some ⟨g3, t - 2, none⟩) : Value),
             fun x _ => x = (W32 (gw A (t - 2)) : Value),
             fun x _ => x = (W32 (gw A (t - 15)) : Value),
             fun x _ => x = (W32 (gw A (t - 2)) : Value)]
            ⟨fun _ _ _ h _ => h, fun _ _ _ h _ => h, fun _ _ _ h _ => h, fun _ _ _ h _ => h, fun _ _ _ h _ => h, fun _ _ _ h _ => h, fun _ _ _ h _ => h, fun _ _ _ h _ => h, fun _ _ _ h _ => h, fun _ _ _ h _ => h, trivial⟩ []
            ⟨?_, ?_, ?_, ?_, ?_, ?_, ?_, ?_, ?_, ?_, trivial⟩ ?_
          · refine showA_op 0 (by intro _ _ _; kernel_rfl) rfl rfl (fun c vals w hC hD => ?_)
            clear hD
            refine makes1 (x := .tmp 5) (X := Value.int .i64 ((t : Nat) : Int)) (by kernel_rfl : _ = (Value.int .i64 ((t : Nat) : Int) : Value)) (fun ρ rc rf q5 => ?_)
            exact makes_move (.inl rfl) q5 ⟨Adds.refl _, rfl⟩
          · refine showA_op 1 (by intro _ _ _; kernel_rfl) rfl rfl (fun c vals w hC hD => ?_)
            have h0 : vals 0 = .int .i64 ((t : Nat) : Int) := hD 0 rfl
            clear hD
            refine makes1 (x := .tmp 52) (X := Value.int .i64 ((t : Nat) : Int)) ((by kernel_rfl : _ = vals 0).trans h0) (fun ρ rc rf q52 => ?_)
            clear h0
            refine makes_value (v := Value.int .i64 ((t - 15 : Nat) : Int)) ?_ ⟨Adds.refl _, rfl⟩
            go_simp
            all_goals first | done | rfl | (rw [if_pos (by omega)]; refine congrArg (fun x => Result.ok (Next.value (Value.pointer (some ⟨_, x, none⟩))) _) ?_; omega) | (rw [wrapP_i64]; omega) | go_num | (simp; done) | (simp; omega) | (congr 1; first | rfl | (rw [wrapP_i64]; omega) | (congr 1; first | rfl | (simp; done) | (simp; omega) | (congr 2; omega) | go_num))
          · refine showA_op 2 (by intro _ _ _; kernel_rfl) rfl rfl (fun c vals w hC hD => ?_)
            have h1 : vals 1 = .int .i64 ((t - 15 : Nat) : Int) := hD 1 rfl
            clear hD
            refine makes2 (x := .tmp 3) (X := Value.pointer (some ⟨g3, 0, none⟩)) (y := .tmp 53) (Y := Value.int .i64 ((t - 15 : Nat) : Int)) (by kernel_rfl : _ = (Value.pointer (some ⟨g3, 0, none⟩) : Value)) ((by kernel_rfl : _ = vals 1).trans h1) (fun ρ rc rf q3 q53 => ?_)
            clear h1
            refine makes_value (v := Value.pointer (some ⟨g3, t - 15, none⟩)) ?_ ⟨Adds.refl _, rfl⟩
            go_simp
            all_goals first | done | rfl | (rw [if_pos (by omega)]; refine congrArg (fun x => Result.ok (Next.value (Value.pointer (some ⟨_, x, none⟩))) _) ?_; omega) | (rw [wrapP_i64]; omega) | go_num | (simp; done) | (simp; omega) | (congr 1; first | rfl | (rw [wrapP_i64]; omega) | (congr 1; first | rfl | (simp; done) | (simp; omega) | (congr 2; omega) | go_num))
          · refine showA_op 3 (by intro _ _ _; kernel_rfl) rfl rfl (fun c vals w hC hD => ?_)
            have h2 : vals 2 = .pointer (some ⟨g3, t - 15, none⟩) := hD 2 rfl
            clear hD
            refine makes1 (x := .tmp 54) (X := Value.pointer (some ⟨g3, t - 15, none⟩)) ((by kernel_rfl : _ = vals 2).trans h2) (fun ρ rc rf q54 => ?_)
            clear h2
            exact makes_load ((hM.adds hC).loads_W32 (by (repeat (first | exact .head _ | apply List.Mem.tail)); done) (on_of rfl) (by first | omega | (simp only [Len] at *; omega) | (simp; omega))) rfl q54 ⟨Adds.refl _, rfl⟩
          · refine showA_op 4 (by intro _ _ _; kernel_rfl) rfl rfl (fun c vals w hC hD => ?_)
            clear hD
            refine makes1 (x := .tmp 5) (X := Value.int .i64 ((t : Nat) : Int)) (by kernel_rfl : _ = (Value.int .i64 ((t : Nat) : Int) : Value)) (fun ρ rc rf q5 => ?_)
            exact makes_move (.inl rfl) q5 ⟨Adds.refl _, rfl⟩
          · refine showA_op 5 (by intro _ _ _; kernel_rfl) rfl rfl (fun c vals w hC hD => ?_)
            have h4 : vals 4 = .int .i64 ((t : Nat) : Int) := hD 4 rfl
            clear hD
            refine makes1 (x := .tmp 56) (X := Value.int .i64 ((t : Nat) : Int)) ((by kernel_rfl : _ = vals 4).trans h4) (fun ρ rc rf q56 => ?_)
            clear h4
            refine makes_value (v := Value.int .i64 ((t - 2 : Nat) : Int)) ?_ ⟨Adds.refl _, rfl⟩
            go_simp
            all_goals first | done | rfl | (rw [if_pos (by omega)]; refine congrArg (fun x => Result.ok (Next.value (Value.pointer (some ⟨_, x, none⟩))) _) ?_; omega) | (rw [wrapP_i64]; omega) | go_num | (simp; done) | (simp; omega) | (congr 1; first | rfl | (rw [wrapP_i64]; omega) | (congr 1; first | rfl | (simp; done) | (simp; omega) | (congr 2; omega) | go_num))
          · refine showA_op 6 (by intro _ _ _; kernel_rfl) rfl rfl (fun c vals w hC hD => ?_)
            have h5 : vals 5 = .int .i64 ((t - 2 : Nat) : Int) := hD 5 rfl
            clear hD
            refine makes2 (x := .tmp 3) (X := Value.pointer (some ⟨g3, 0, none⟩)) (y := .tmp 57) (Y := Value.int .i64 ((t - 2 : Nat) : Int)) (by kernel_rfl : _ = (Value.pointer (some ⟨g3, 0, none⟩) : Value)) ((by kernel_rfl : _ = vals 5).trans h5) (fun ρ rc rf q3 q57 => ?_)
            clear h5
            refine makes_value (v := Value.pointer (some ⟨g3, t - 2, none⟩)) ?_ ⟨Adds.refl _, rfl⟩
            go_simp
            all_goals first | done | rfl | (rw [if_pos (by omega)]; refine congrArg (fun x => Result.ok (Next.value (Value.pointer (some ⟨_, x, none⟩))) _) ?_; omega) | (rw [wrapP_i64]; omega) | go_num | (simp; done) | (simp; omega) | (congr 1; first | rfl | (rw [wrapP_i64]; omega) | (congr 1; first | rfl | (simp; done) | (simp; omega) | (congr 2; omega) | go_num))
          · refine showA_op 7 (by intro _ _ _; kernel_rfl) rfl rfl (fun c vals w hC hD => ?_)
            have h6 : vals 6 = .pointer (some ⟨g3, t - 2, none⟩) := hD 6 rfl
            clear hD
            refine makes1 (x := .tmp 58) (X := Value.pointer (some ⟨g3, t - 2, none⟩)) ((by kernel_rfl : _ = vals 6).trans h6) (fun ρ rc rf q58 => ?_)
            clear h6
            exact makes_load ((hM.adds hC).loads_W32 (by (repeat (first | exact .head _ | apply List.Mem.tail)); done) (on_of rfl) (by first | omega | (simp only [Len] at *; omega) | (simp; omega))) rfl q58 ⟨Adds.refl _, rfl⟩
          · refine showA_op 8 (by intro _ _ _; kernel_rfl) rfl rfl (fun c vals w hC hD => ?_)
            have h3 : vals 3 = W32 (gw A (t - 15)) := hD 3 rfl
            clear hD
            refine makes1 (x := .tmp 55) (X := W32 (gw A (t - 15))) ((by kernel_rfl : _ = vals 3).trans h3) (fun ρ rc rf q55 => ?_)
            clear h3
            exact makes_move (.inr rfl) q55 ⟨Adds.refl _, rfl⟩
          · refine showA_op 9 (by intro _ _ _; kernel_rfl) rfl rfl (fun c vals w hC hD => ?_)
            have h7 : vals 7 = W32 (gw A (t - 2)) := hD 7 rfl
            clear hD
            refine makes1 (x := .tmp 59) (X := W32 (gw A (t - 2))) ((by kernel_rfl : _ = vals 7).trans h7) (fun ρ rc rf q59 => ?_)
            clear h7
            exact makes_move (.inr rfl) q59 ⟨Adds.refl _, rfl⟩
          intro vals w' hC hΦ hne
          have h8 : vals 8 = W32 (gw A (t - 15)) := hΦ 8 (by decide)
          have h9 : vals 9 = W32 (gw A (t - 2)) := hΦ 9 (by decide)
          clear hΦ hne
          simp only [List.getD_eq_getElem?_getD, List.getElem?_cons_zero, List.getElem?_cons_succ, Option.getD_some, List.drop_succ_cons, List.drop_zero]
          simp only [h8, h9]
          clear h8 h9
          try simp only [tuple_undef]
          replace hM := hM.adds hC
          clear hC
          go_wp2_with (first | (go_at_call 89; (with_reducible refine (ref02_turned_i _ _ 7 7 rfl (by decide)).mono ?_); rintro _ _ ⟨rfl, B1⟩; replace hM := hM.adds B1; clear B1) |
            (go_at_call 89; (with_reducible refine (ref02_turned_i _ _ 18 18 rfl (by decide)).mono ?_); rintro _ _ ⟨rfl, B1⟩; replace hM := hM.adds B1; clear B1) |
            (go_at_call 89; (with_reducible refine (ref02_turned_i _ _ 17 17 rfl (by decide)).mono ?_); rintro _ _ ⟨rfl, B1⟩; replace hM := hM.adds B1; clear B1) |
            (go_at_call 89; (with_reducible refine (ref02_turned_i _ _ 19 19 rfl (by decide)).mono ?_); rintro _ _ ⟨rfl, B1⟩; replace hM := hM.adds B1; clear B1) | go_skip | ((first | (with_reducible refine gL_load ?_) | ((with_reducible refine gG_load ?_ ?_); (exact wanted_of rfl rfl rfl rfl rfl))); refine ⟨_, _, rfl, (by (first | (assumption) | (exact hM.loads_B8 (by (repeat (first | exact .head _ | apply List.Mem.tail)); done) (on_of rfl) (by first | omega | (simp only [Len] at *; omega) | (simp; omega))) | (exact hM.loads_all (by (repeat (first | exact .head _ | apply List.Mem.tail)); done) (ag_of rfl) (by first | assumption | exact Len.map (by assumption) _ | rfl | exact Len.map (by rfl) _ | exact Len.of (by simp; done))) | (exact hM.loads_one (by (repeat (first | exact .head _ | apply List.Mem.tail)); done) (on_of rfl) rfl) | (exact hM.loads_W32 (by (repeat (first | exact .head _ | apply List.Mem.tail)); done) (on_of rfl) (by first | omega | (simp only [Len] at *; omega) | (simp; omega))) | (exact loads_cell (by assumption) (on_of rfl)))), ?_⟩) | ((with_reducible refine gL_store hM ?_); refine ⟨_, _, _, rfl, rfl, (by (first | (exact hM.stores_B8 (by first | exact (rfl : B8 _ = B8 _) | exact lit8 _ (by decide)) (by (repeat (first | exact .here _ _ _ | apply Has.there)); done) (on_of rfl) (by first | omega | (simp only [Len] at *; omega) | (simp; omega))) | (exact hM.stores_all (by (repeat (first | exact .here _ _ _ | apply Has.there)); done) (ag_of rfl) (by first | assumption | exact Len.map (by assumption) _ | rfl | exact Len.map (by rfl) _ | exact Len.of (by simp; done)) (by first | assumption | exact Len.map (by assumption) _ | rfl | exact Len.map (by rfl) _ | exact Len.of (by simp; done)) (by first | exact B8_one | exact W32_one | exact one_of_all rfl)) | (exact hM.stores_W32 rfl (by (repeat (first | exact .here _ _ _ | apply Has.there)); done) (on_of rfl) (by first | omega | (simp only [Len] at *; omega) | (simp; omega))) | (exact hM.stores_one (by (repeat (first | exact .here _ _ _ | apply Has.there)); done) (on_of rfl) (by first | omega | (simp only [Len] at *; omega) | (simp; omega)) rfl rfl))), ?_⟩; intro _ hM2; clear hM; have hM := hM2; clear hM2) | ((with_reducible refine gL_alloc hM ?_); refine ⟨_, _, (zr_of rfl), ?_⟩; intro _ _ hM2; clear hM; have hM := hM2; clear hM2) | ((with_reducible refine gL_box hM ?_); refine ⟨_, _, _, rfl, rfl, (by first | assumption | exact Len.map (by assumption) _ | rfl | exact Len.map (by rfl) _ | exact Len.of (by simp; done)), ?_⟩; intro _ _ hM2; clear hM; have hM := hM2; clear hM2) | ((with_reducible refine gL_build0 ?_); refine ⟨_, _, _, _, _, _, (zr_of rfl), (ua_of rfl), (ag_of rfl), (el_of rfl), ?_⟩) | ((with_reducible refine gL_buildBytes hM ?_); refine ⟨_, _, (us_of rfl), (el_of rfl), (by decide), (by decide), rfl, (by (repeat (first | exact EvB.nil | apply EvB.cons rfl (by first | exact (rfl : B8 _ = B8 _) | exact lit8 _ (by decide)))); done), ?_⟩; intro _ _ hM2; clear hM; have hM := hM2; clear hM2) | ((with_reducible refine gL_append_B hM ?_); refine ⟨_, _, _, _, _, _, _, _, _, _, rfl, rfl, (by first | exact (rfl : Value.slice (some ⟨_, 0, none⟩) _ _ = sl (some _) _ _) | exact (rfl : Value.slice none _ _ = sl none _ _) | rfl), (us_of rfl), (el_of rfl), (by first | exact hM.src (by (repeat (first | exact .head _ | apply List.Mem.tail)); done) | exact (hM.bytes0 (by assumption)).src), (fun _ _ => by (repeat (first | exact .here _ _ _ | apply Swap.there)); done), (by first | assumption | exact Len.map (by assumption) _ | rfl | exact Len.map (by rfl) _ | exact Len.of (by simp; done)), (by first | assumption | exact Len.map (by assumption) _ | rfl | exact Len.map (by rfl) _ | exact Len.of (by simp; done)), (by first | assumption | (simp [maxLen]; done) | omega | (simp [maxLen]; omega)), (by first | omega | (simp only [Len] at *; omega) | (simp; omega)), ?_⟩; intro _ _ _ hM2 _ _; clear hM; have hM := hM2; clear hM2) | ((first | (with_reducible refine gL_field ?_) | ((with_reducible refine gG_field ?_ ?_); (exact wanted_of rfl rfl rfl rfl rfl))); refine ⟨_, _, rfl, (by (first | (exact field_one (fb_of rfl) rfl) | (exact field_agg (fa_of rfl) rfl))), ?_⟩))
          try simp only [Act.put, List.setIfInBounds_toArray, List.set_cons_succ, List.set_cons_zero]
          refine wp_region_tail 14 (by decide) (fun c vals => ⟨#[c 0, c 1, c 2, (Value.pointer (some ⟨g3, 0, none⟩) : Value), c 4, (Value.int .i64 ((t : Nat) : Int) : Value), (W32 ((Sha.turned (gw A (t - 15)) 7 ^^^ Sha.turned (gw A (t - 15)) 18) ^^^ (gw A (t - 15)) >>> 3) : Value), (W32 ((Sha.turned (gw A (t - 2)) 17 ^^^ Sha.turned (gw A (t - 2)) 19) ^^^ (gw A (t - 2)) >>> 10) : Value), c 8, c 9, c 10, c 11, c 12, c 13, c 14, c 15, c 16, c 17, c 18, c 19, c 20, c 21, c 22, c 23, c 24, c 25, c 26, c 27, c 28, c 29, c 30, c 31, c 32, c 33, c 34, c 35, c 36, c 37, c 38, c 39, c 40, c 41, c 42, c 43, c 44, c 45, c 46, c 47, c 48, c 49, c 50, c 51, c 52, c 53, c 54, c 55, c 56, c 57, c 58, c 59, c 60, c 61, c 62, c 63, c 64, c 65, c 66, c 67, c 68, c 69, c 70, c 71, c 72, c 73, c 74, c 75, vals 0, vals 1, vals 2, vals 3, vals 4, vals 5, vals 6, vals 7, vals 8, vals 9, vals 10, vals 11, vals 12, vals 13, c 90, c 91], []⟩) (fun t => [_, _, _, undef, _, undef, undef, undef, _, _, _, _, _, _, _, _, _, _, _, _, _, _, _, _, _, _, _, _, _, _, _, _, _, _, _, _, _, _, _, _, _, _, _, _, _, _, _, _, _, _, _, _, _, _, _, _, _, _, _, _, _, _, _, _, _, _, _, _, _, _, _, _, _, _, _, _, undef, undef, undef, undef, undef, undef, undef, undef, undef, undef, undef, undef, undef, undef, _, _].getD t undef) (fun i => [_, _, _, _, _, _, _, _, _, _, _, _, _, _].getD i undef) (by kernel_rfl)
            [[], [], [1], [1, 2], [1, 2, 3], [], [1, 2, 3, 4, 5], [], [7], [7, 8], [7, 8, 9], [1, 2, 3, 4, 5, 6, 7, 8, 9, 10], [], [1, 2, 3, 4, 5, 6, 7, 8, 9, 10, 11, 12], [0, 1, 2, 3, 4, 5, 6, 7, 8, 9, 10, 11, 12, 13], [0, 1, 2, 3, 4, 5, 6, 7, 8, 9, 10, 11, 12, 13, 14]] (by kernel_rfl) (by kernel_rfl) (fun _ => True) trivial
            [fun x _ => x = (Value.int .i64 ((t : Nat) : Int) : Value),
             fun x _ => x = (Value.int .i64 ((t : Nat) : Int) : Value),
             fun x _ => x = (Value.int .i64 ((t - 16 : Nat) : Int) : Value),
             fun x _ => x = (Value.pointer (some ⟨g3, t - 16, none⟩) : Value),
             fun x _ => x = (W32 (gw A (t - 16)) : Value),
             fun x _ => x = (W32 ((Sha.turned (gw A (t - 15)) 7 ^^^ Sha.turned (gw A (t - 15)) 18) ^^^ (gw A (t - 15)) >>> 3) : Value),
             fun x _ => x = (W32 ((gw A (t - 16)) + ((Sha.turned (gw A (t - 15)) 7 ^^^ Sha.turned (gw A (t - 15)) 18) ^^^ (gw A (t - 15)) >>> 3)) : Value),
             fun x _ => x = (Value.int .i64 ((t : Nat) : Int) : Value),
             fun x _ => x = (Value.int .i64 ((t - 7 : Nat) : Int) : Value),
             fun x _ => x = (Value.pointer (some ⟨g3, t - 7, none⟩) : Value),
             fun x _ => x = (W32 (gw A (t - 7)) : Value),
             fun x _ => x = (W32 (((gw A (t - 16)) + ((Sha.turned (gw A (t - 15)) 7 ^^^ Sha.turned (gw A (t - 15)) 18) ^^^ (gw A (t - 15)) >>> 3)) + (gw A (t - 7))) : Value),
             fun x _ => x = (W32 ((Sha.turned (gw A (t - 2)) 17 ^^^ Sha.turned (gw A (t - 2)) 19) ^^^ (gw A (t - 2)) >>> 10) : Value),
             fun x _ => x = (W32 ((((gw A (t - 16)) + ((Sha.turned (gw A (t - 15)) 7 ^^^ Sha.turned (gw A (t - 15)) 18) ^^^ (gw A (t - 15)) >>> 3)) + (gw A (t - 7))) + ((Sha.turned (gw A (t - 2)) 17 ^^^ Sha.turned (gw A (t - 2)) 19) ^^^ (gw A (t - 2)) >>> 10)) : Value)]
            ⟨fun _ _ _ h _ => h, fun _ _ _ h _ => h, fun _ _ _ h _ => h, fun _ _ _ h _ => h, fun _ _ _ h _ => h, fun _ _ _ h _ => h, fun _ _ _ h _ => h, fun _ _ _ h _ => h, fun _ _ _ h _ => h, fun _ _ _ h _ => h, fun _ _ _ h _ => h, fun _ _ _ h _ => h, fun _ _ _ h _ => h, fun _ _ _ h _ => h, trivial⟩ []
            ⟨?_, ?_, ?_, ?_, ?_, ?_, ?_, ?_, ?_, ?_, ?_, ?_, ?_, ?_, trivial⟩ ?_
          · refine showA_op 0 (by intro _ _ _; kernel_rfl) rfl rfl (fun c vals w hC hD => ?_)
            clear hD
            refine makes1 (x := .tmp 5) (X := Value.int .i64 ((t : Nat) : Int)) (by kernel_rfl : _ = (Value.int .i64 ((t : Nat) : Int) : Value)) (fun ρ rc rf q5 => ?_)
            exact makes_move (.inl rfl) q5 ⟨Adds.refl _, rfl⟩
          · refine showA_op 1 (by intro _ _ _; kernel_rfl) rfl rfl (fun c vals w hC hD => ?_)
            clear hD
            refine makes1 (x := .tmp 5) (X := Value.int .i64 ((t : Nat) : Int)) (by kernel_rfl : _ = (Value.int .i64 ((t : Nat) : Int) : Value)) (fun ρ rc rf q5 => ?_)
            exact makes_move (.inl rfl) q5 ⟨Adds.refl _, rfl⟩
          · refine showA_op 2 (by intro _ _ _; kernel_rfl) rfl rfl (fun c vals w hC hD => ?_)
            have h1 : vals 1 = .int .i64 ((t : Nat) : Int) := hD 1 rfl
            clear hD
            refine makes1 (x := .tmp 77) (X := Value.int .i64 ((t : Nat) : Int)) ((by kernel_rfl : _ = vals 1).trans h1) (fun ρ rc rf q77 => ?_)
            clear h1
            refine makes_value (v := Value.int .i64 ((t - 16 : Nat) : Int)) ?_ ⟨Adds.refl _, rfl⟩
            go_simp
            all_goals first | done | rfl | (rw [if_pos (by omega)]; refine congrArg (fun x => Result.ok (Next.value (Value.pointer (some ⟨_, x, none⟩))) _) ?_; omega) | (rw [wrapP_i64]; omega) | go_num | (simp; done) | (simp; omega) | (congr 1; first | rfl | (rw [wrapP_i64]; omega) | (congr 1; first | rfl | (simp; done) | (simp; omega) | (congr 2; omega) | go_num))
          · refine showA_op 3 (by intro _ _ _; kernel_rfl) rfl rfl (fun c vals w hC hD => ?_)
            have h2 : vals 2 = .int .i64 ((t - 16 : Nat) : Int) := hD 2 rfl
            clear hD
            refine makes2 (x := .tmp 3) (X := Value.pointer (some ⟨g3, 0, none⟩)) (y := .tmp 78) (Y := Value.int .i64 ((t - 16 : Nat) : Int)) (by kernel_rfl : _ = (Value.pointer (some ⟨g3, 0, none⟩) : Value)) ((by kernel_rfl : _ = vals 2).trans h2) (fun ρ rc rf q3 q78 => ?_)
            clear h2
            refine makes_value (v := Value.pointer (some ⟨g3, t - 16, none⟩)) ?_ ⟨Adds.refl _, rfl⟩
            go_simp
            all_goals first | done | rfl | (rw [if_pos (by omega)]; refine congrArg (fun x => Result.ok (Next.value (Value.pointer (some ⟨_, x, none⟩))) _) ?_; omega) | (rw [wrapP_i64]; omega) | go_num | (simp; done) | (simp; omega) | (congr 1; first | rfl | (rw [wrapP_i64]; omega) | (congr 1; first | rfl | (simp; done) | (simp; omega) | (congr 2; omega) | go_num))
          · refine showA_op 4 (by intro _ _ _; kernel_rfl) rfl rfl (fun c vals w hC hD => ?_)
            have h3 : vals 3 = .pointer (some ⟨g3, t - 16, none⟩) := hD 3 rfl
            clear hD
            refine makes1 (x := .tmp 79) (X := Value.pointer (some ⟨g3, t - 16, none⟩)) ((by kernel_rfl : _ = vals 3).trans h3) (fun ρ rc rf q79 => ?_)
            clear h3
            exact makes_load ((hM.adds hC).loads_W32 (by (repeat (first | exact .head _ | apply List.Mem.tail)); done) (on_of rfl) (by first | omega | (simp only [Len] at *; omega) | (simp; omega))) rfl q79 ⟨Adds.refl _, rfl⟩
          · refine showA_op 5 (by intro _ _ _; kernel_rfl) rfl rfl (fun c vals w hC hD => ?_)
            clear hD
            refine makes1 (x := .tmp 6) (X := W32 ((Sha.turned (gw A (t - 15)) 7 ^^^ Sha.turned (gw A (t - 15)) 18) ^^^ (gw A (t - 15)) >>> 3)) (by kernel_rfl : _ = (W32 ((Sha.turned (gw A (t - 15)) 7 ^^^ Sha.turned (gw A (t - 15)) 18) ^^^ (gw A (t - 15)) >>> 3) : Value)) (fun ρ rc rf q6 => ?_)
            exact makes_move (.inl rfl) q6 ⟨Adds.refl _, rfl⟩
          · refine showA_op 6 (by intro _ _ _; kernel_rfl) rfl rfl (fun c vals w hC hD => ?_)
            have h4 : vals 4 = W32 (gw A (t - 16)) := hD 4 rfl
            have h5 : vals 5 = W32 ((Sha.turned (gw A (t - 15)) 7 ^^^ Sha.turned (gw A (t - 15)) 18) ^^^ (gw A (t - 15)) >>> 3) := hD 5 rfl
            clear hD
            refine makes2 (x := .tmp 80) (X := W32 (gw A (t - 16))) (y := .tmp 81) (Y := W32 ((Sha.turned (gw A (t - 15)) 7 ^^^ Sha.turned (gw A (t - 15)) 18) ^^^ (gw A (t - 15)) >>> 3)) ((by kernel_rfl : _ = vals 4).trans h4) ((by kernel_rfl : _ = vals 5).trans h5) (fun ρ rc rf q80 q81 => ?_)
            clear h4 h5
            refine makes_value (v := W32 ((gw A (t - 16)) + ((Sha.turned (gw A (t - 15)) 7 ^^^ Sha.turned (gw A (t - 15)) 18) ^^^ (gw A (t - 15)) >>> 3))) ?_ ⟨Adds.refl _, rfl⟩
            go_simp
            all_goals first | done | rfl | (rw [if_pos (by omega)]; refine congrArg (fun x => Result.ok (Next.value (Value.pointer (some ⟨_, x, none⟩))) _) ?_; omega) | (rw [wrapP_i64]; omega) | go_num | (simp; done) | (simp; omega) | (congr 1; first | rfl | (rw [wrapP_i64]; omega) | (congr 1; first | rfl | (simp; done) | (simp; omega) | (congr 2; omega) | go_num))
          · refine showA_op 7 (by intro _ _ _; kernel_rfl) rfl rfl (fun c vals w hC hD => ?_)
            clear hD
            refine makes1 (x := .tmp 5) (X := Value.int .i64 ((t : Nat) : Int)) (by kernel_rfl : _ = (Value.int .i64 ((t : Nat) : Int) : Value)) (fun ρ rc rf q5 => ?_)
            exact makes_move (.inl rfl) q5 ⟨Adds.refl _, rfl⟩
          · refine showA_op 8 (by intro _ _ _; kernel_rfl) rfl rfl (fun c vals w hC hD => ?_)
            have h7 : vals 7 = .int .i64 ((t : Nat) : Int) := hD 7 rfl
            clear hD
            refine makes1 (x := .tmp 83) (X := Value.int .i64 ((t : Nat) : Int)) ((by kernel_rfl : _ = vals 7).trans h7) (fun ρ rc rf q83 => ?_)
            clear h7
            refine makes_value (v := Value.int .i64 ((t - 7 : Nat) : Int)) ?_ ⟨Adds.refl _, rfl⟩
            go_simp
            all_goals first | done | rfl | (rw [if_pos (by omega)]; refine congrArg (fun x => Result.ok (Next.value (Value.pointer (some ⟨_, x, none⟩))) _) ?_; omega) | (rw [wrapP_i64]; omega) | go_num | (simp; done) | (simp; omega) | (congr 1; first | rfl | (rw [wrapP_i64]; omega) | (congr 1; first | rfl | (simp; done) | (simp; omega) | (congr 2; omega) | go_num))
          · refine showA_op 9 (by intro _ _ _; kernel_rfl) rfl rfl (fun c vals w hC hD => ?_)
            have h8 : vals 8 = .int .i64 ((t - 7 : Nat) : Int) := hD 8 rfl
            clear hD
            refine makes2 (x := .tmp 3) (X := Value.pointer (some ⟨g3, 0, none⟩)) (y := .tmp 84) (Y := Value.int .i64 ((t - 7 : Nat) : Int)) (by kernel_rfl : _ = (Value.pointer (some ⟨g3, 0, none⟩) : Value)) ((by kernel_rfl : _ = vals 8).trans h8) (fun ρ rc rf q3 q84 => ?_)
            clear h8
            refine makes_value (v := Value.pointer (some ⟨g3, t - 7, none⟩)) ?_ ⟨Adds.refl _, rfl⟩
            go_simp
            all_goals first | done | rfl | (rw [if_pos (by omega)]; refine congrArg (fun x => Result.ok (Next.value (Value.pointer (some ⟨_, x, none⟩))) _) ?_; omega) | (rw [wrapP_i64]; omega) | go_num | (simp; done) | (simp; omega) | (congr 1; first | rfl | (rw [wrapP_i64]; omega) | (congr 1; first | rfl | (simp; done) | (simp; omega) | (congr 2; omega) | go_num))
          · refine showA_op 10 (by intro _ _ _; kernel_rfl) rfl rfl (fun c vals w hC hD => ?_)
            have h9 : vals 9 = .pointer (some ⟨g3, t - 7, none⟩) := hD 9 rfl
            clear hD
            refine makes1 (x := .tmp 85) (X := Value.pointer (some ⟨g3, t - 7, none⟩)) ((by kernel_rfl : _ = vals 9).trans h9) (fun ρ rc rf q85 => ?_)
            clear h9
            exact makes_load ((hM.adds hC).loads_W32 (by (repeat (first | exact .head _ | apply List.Mem.tail)); done) (on_of rfl) (by first | omega | (simp only [Len] at *; omega) | (simp; omega))) rfl q85 ⟨Adds.refl _, rfl⟩
          · refine showA_op 11 (by intro _ _ _; kernel_rfl) rfl rfl (fun c vals w hC hD => ?_)
            have h6 : vals 6 = W32 ((gw A (t - 16)) + ((Sha.turned (gw A (t - 15)) 7 ^^^ Sha.turned (gw A (t - 15)) 18) ^^^ (gw A (t - 15)) >>> 3)) := hD 6 rfl
            have h10 : vals 10 = W32 (gw A (t - 7)) := hD 10 rfl
            clear hD
            refine makes2 (x := .tmp 82) (X := W32 ((gw A (t - 16)) + ((Sha.turned (gw A (t - 15)) 7 ^^^ Sha.turned (gw A (t - 15)) 18) ^^^ (gw A (t - 15)) >>> 3))) (y := .tmp 86) (Y := W32 (gw A (t - 7))) ((by kernel_rfl : _ = vals 6).trans h6) ((by kernel_rfl : _ = vals 10).trans h10) (fun ρ rc rf q82 q86 => ?_)
            clear h6 h10
            refine makes_value (v := W32 (((gw A (t - 16)) + ((Sha.turned (gw A (t - 15)) 7 ^^^ Sha.turned (gw A (t - 15)) 18) ^^^ (gw A (t - 15)) >>> 3)) + (gw A (t - 7)))) ?_ ⟨Adds.refl _, rfl⟩
            go_simp
            all_goals first | done | rfl | (rw [if_pos (by omega)]; refine congrArg (fun x => Result.ok (Next.value (Value.pointer (some ⟨_, x, none⟩))) _) ?_; omega) | (rw [wrapP_i64]; omega) | go_num | (simp; done) | (simp; omega) | (congr 1; first | rfl | (rw [wrapP_i64]; omega) | (congr 1; first | rfl | (simp; done) | (simp; omega) | (congr 2; omega) | go_num))
          · refine showA_op 12 (by intro _ _ _; kernel_rfl) rfl rfl (fun c vals w hC hD => ?_)
            clear hD
            refine makes1 (x := .tmp 7) (X := W32 ((Sha.turned (gw A (t - 2)) 17 ^^^ Sha.turned (gw A (t - 2)) 19) ^^^ (gw A (t - 2)) >>> 10)) (by kernel_rfl : _ = (W32 ((Sha.turned (gw A (t - 2)) 17 ^^^ Sha.turned (gw A (t - 2)) 19) ^^^ (gw A (t - 2)) >>> 10) : Value)) (fun ρ rc rf q7 => ?_)
            exact makes_move (.inl rfl) q7 ⟨Adds.refl _, rfl⟩
          · refine showA_op 13 (by intro _ _ _; kernel_rfl) rfl rfl (fun c vals w hC hD => ?_)
            have h11 : vals 11 = W32 (((gw A (t - 16)) + ((Sha.turned (gw A (t - 15)) 7 ^^^ Sha.turned (gw A (t - 15)) 18) ^^^ (gw A (t - 15)) >>> 3)) + (gw A (t - 7))) := hD 11 rfl
            have h12 : vals 12 = W32 ((Sha.turned (gw A (t - 2)) 17 ^^^ Sha.turned (gw A (t - 2)) 19) ^^^ (gw A (t - 2)) >>> 10) := hD 12 rfl
            clear hD
            refine makes2 (x := .tmp 87) (X := W32 (((gw A (t - 16)) + ((Sha.turned (gw A (t - 15)) 7 ^^^ Sha.turned (gw A (t - 15)) 18) ^^^ (gw A (t - 15)) >>> 3)) + (gw A (t - 7)))) (y := .tmp 88) (Y := W32 ((Sha.turned (gw A (t - 2)) 17 ^^^ Sha.turned (gw A (t - 2)) 19) ^^^ (gw A (t - 2)) >>> 10)) ((by kernel_rfl : _ = vals 11).trans h11) ((by kernel_rfl : _ = vals 12).trans h12) (fun ρ rc rf q87 q88 => ?_)
            clear h11 h12
            refine makes_value (v := W32 ((((gw A (t - 16)) + ((Sha.turned (gw A (t - 15)) 7 ^^^ Sha.turned (gw A (t - 15)) 18) ^^^ (gw A (t - 15)) >>> 3)) + (gw A (t - 7))) + ((Sha.turned (gw A (t - 2)) 17 ^^^ Sha.turned (gw A (t - 2)) 19) ^^^ (gw A (t - 2)) >>> 10))) ?_ ⟨Adds.refl _, rfl⟩
            go_simp
            all_goals first | done | rfl | (rw [if_pos (by omega)]; refine congrArg (fun x => Result.ok (Next.value (Value.pointer (some ⟨_, x, none⟩))) _) ?_; omega) | (rw [wrapP_i64]; omega) | go_num | (simp; done) | (simp; omega) | (congr 1; first | rfl | (rw [wrapP_i64]; omega) | (congr 1; first | rfl | (simp; done) | (simp; omega) | (congr 2; omega) | go_num))
          intro vals w' hC hΦ hne
          have h0 : vals 0 = .int .i64 ((t : Nat) : Int) := hΦ 0 (by decide)
          have h13 : vals 13 = W32 ((((gw A (t - 16)) + ((Sha.turned (gw A (t - 15)) 7 ^^^ Sha.turned (gw A (t - 15)) 18) ^^^ (gw A (t - 15)) >>> 3)) + (gw A (t - 7))) + ((Sha.turned (gw A (t - 2)) 17 ^^^ Sha.turned (gw A (t - 2)) 19) ^^^ (gw A (t - 2)) >>> 10)) := hΦ 13 (by decide)
          clear hΦ hne
          simp only [List.getD_eq_getElem?_getD, List.getElem?_cons_zero, List.getElem?_cons_succ, Option.getD_some, List.drop_succ_cons, List.drop_zero]
          simp only [h0, h13]
          clear h0 h13
          try simp only [tuple_undef]
          replace hM := hM.adds hC
          clear hC
          go_wp2_with (first | go_skip | ((first | (with_reducible refine gL_load ?_) | ((with_reducible refine gG_load ?_ ?_); (exact wanted_of rfl rfl rfl rfl rfl))); refine ⟨_, _, rfl, (by (first | (assumption) | (exact hM.loads_B8 (by (repeat (first | exact .head _ | apply List.Mem.tail)); done) (on_of rfl) (by first | omega | (simp only [Len] at *; omega) | (simp; omega))) | (exact hM.loads_all (by (repeat (first | exact .head _ | apply List.Mem.tail)); done) (ag_of rfl) (by first | assumption | exact Len.map (by assumption) _ | rfl | exact Len.map (by rfl) _ | exact Len.of (by simp; done))) | (exact hM.loads_one (by (repeat (first | exact .head _ | apply List.Mem.tail)); done) (on_of rfl) rfl) | (exact hM.loads_W32 (by (repeat (first | exact .head _ | apply List.Mem.tail)); done) (on_of rfl) (by first | omega | (simp only [Len] at *; omega) | (simp; omega))) | (exact loads_cell (by assumption) (on_of rfl)))), ?_⟩) | ((with_reducible refine gL_store hM ?_); refine ⟨_, _, _, rfl, rfl, (by (first | (exact hM.stores_B8 (by first | exact (rfl : B8 _ = B8 _) | exact lit8 _ (by decide)) (by (repeat (first | exact .here _ _ _ | apply Has.there)); done) (on_of rfl) (by first | omega | (simp only [Len] at *; omega) | (simp; omega))) | (exact hM.stores_all (by (repeat (first | exact .here _ _ _ | apply Has.there)); done) (ag_of rfl) (by first | assumption | exact Len.map (by assumption) _ | rfl | exact Len.map (by rfl) _ | exact Len.of (by simp; done)) (by first | assumption | exact Len.map (by assumption) _ | rfl | exact Len.map (by rfl) _ | exact Len.of (by simp; done)) (by first | exact B8_one | exact W32_one | exact one_of_all rfl)) | (exact hM.stores_W32 rfl (by (repeat (first | exact .here _ _ _ | apply Has.there)); done) (on_of rfl) (by first | omega | (simp only [Len] at *; omega) | (simp; omega))) | (exact hM.stores_one (by (repeat (first | exact .here _ _ _ | apply Has.there)); done) (on_of rfl) (by first | omega | (simp only [Len] at *; omega) | (simp; omega)) rfl rfl))), ?_⟩; intro _ hM2; clear hM; have hM := hM2; clear hM2) | ((with_reducible refine gL_alloc hM ?_); refine ⟨_, _, (zr_of rfl), ?_⟩; intro _ _ hM2; clear hM; have hM := hM2; clear hM2) | ((with_reducible refine gL_box hM ?_); refine ⟨_, _, _, rfl, rfl, (by first | assumption | exact Len.map (by assumption) _ | rfl | exact Len.map (by rfl) _ | exact Len.of (by simp; done)), ?_⟩; intro _ _ hM2; clear hM; have hM := hM2; clear hM2) | ((with_reducible refine gL_build0 ?_); refine ⟨_, _, _, _, _, _, (zr_of rfl), (ua_of rfl), (ag_of rfl), (el_of rfl), ?_⟩) | ((with_reducible refine gL_buildBytes hM ?_); refine ⟨_, _, (us_of rfl), (el_of rfl), (by decide), (by decide), rfl, (by (repeat (first | exact EvB.nil | apply EvB.cons rfl (by first | exact (rfl : B8 _ = B8 _) | exact lit8 _ (by decide)))); done), ?_⟩; intro _ _ hM2; clear hM; have hM := hM2; clear hM2) | ((with_reducible refine gL_append_B hM ?_); refine ⟨_, _, _, _, _, _, _, _, _, _, rfl, rfl, (by first | exact (rfl : Value.slice (some ⟨_, 0, none⟩) _ _ = sl (some _) _ _) | exact (rfl : Value.slice none _ _ = sl none _ _) | rfl), (us_of rfl), (el_of rfl), (by first | exact hM.src (by (repeat (first | exact .head _ | apply List.Mem.tail)); done) | exact (hM.bytes0 (by assumption)).src), (fun _ _ => by (repeat (first | exact .here _ _ _ | apply Swap.there)); done), (by first | assumption | exact Len.map (by assumption) _ | rfl | exact Len.map (by rfl) _ | exact Len.of (by simp; done)), (by first | assumption | exact Len.map (by assumption) _ | rfl | exact Len.map (by rfl) _ | exact Len.of (by simp; done)), (by first | assumption | (simp [maxLen]; done) | omega | (simp [maxLen]; omega)), (by first | omega | (simp only [Len] at *; omega) | (simp; omega)), ?_⟩; intro _ _ _ hM2 _ _; clear hM; have hM := hM2; clear hM2) | ((first | (with_reducible refine gL_field ?_) | ((with_reducible refine gG_field ?_ ?_); (exact wanted_of rfl rfl rfl rfl rfl))); refine ⟨_, _, rfl, (by (first | (exact field_one (fb_of rfl) rfl) | (exact field_agg (fa_of rfl) rfl))), ?_⟩))
          rw [HN ()] at hM
          go_roundw
          case rel => exact ⟨t + 1, by omega, by omega, by go_num, hM⟩
          case measure => simp [intOf]; omega
        · have : t = 64 := by omega
          subst this
          rw [HW ()] at hM
          go_wp2_with (first | ((with_reducible refine gL_load ?_); refine ⟨_, _, rfl, hM.loads_all (.head _) (ag_of rfl) (W32_len hWl), ?_⟩) |
            ((with_reducible refine gL_store hM ?_); refine ⟨_, _, _, rfl, rfl, hM.stores_all (by (repeat (first | exact .here _ _ _ | apply Has.there)); done) (ag_of rfl) (W32_len hWl) (by rfl) W32_one, ?_⟩; intro _ hM2; clear hM; have hM := hM2; clear hM2))
          exact hM.ret_cell rfl rfl rfl (.tail _ (.head _)) (ag_of rfl) (W32_len hWl) ⟨rfl, hM.done⟩
end Go.Proofs.Ytejmbkljnhnklaa
