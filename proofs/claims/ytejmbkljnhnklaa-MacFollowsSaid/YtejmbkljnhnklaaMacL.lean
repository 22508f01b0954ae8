/-
  The walk of MacFollows.
-/
import Derived.Test.YtejmbkljnhnklaaMacF
import Derived.Test.YtejmbkljnhnklaaShaP
namespace Go.Proofs.Ytejmbkljnhnklaa
open Go.RowKit Go.PK

set_option maxRecDepth 100000 in
set_option maxHeartbeats 4000000 in
theorem MacFollows_walk (w0 : World) (v1 : Value) (key : List UInt8) (hv1 : Bytes w0 v1 key) (h1 : key.length ≤ 140737488351232) (v2 : Value) (m : List UInt8) (hv2 : Bytes w0 v2 m) (h2 : m.length ≤ 140737488351232) :
    Calls Try.prog 7 #[v1, v2] w0 fun e w' => e = .returned (.bool true) ∧ Below w0.heap.size w0 w' := by
  obtain ⟨T, hT⟩ : ∃ T, Mac.tag key m = T := ⟨_, rfl⟩
  have hTl : Len T 32 := by rw [← hT]; exact Len.of (Mac.tag_len _ _)
  have hof : ∀ w v key', Bytes w v key' → key'.length ≤ 140737488351232 → Mac.block key' = Mac.block key → ∀ v', Bytes w v' m → Calls Try.prog 31 #[v, v'] w fun e w' => e = .returned (.agg (T.map B8).toArray) ∧ Below w.heap.size w w' := fun w v key' h hl hb v' h' =>
    mac_Of_as w v v' key' m h h' (by omega) (by omega) T (by rw [Mac.tag_block _ _ _ hb, hT])
  clear hT
  have hM := Mem.start w0
  obtain ⟨ao1, cap1, rfl, e1, e2, -⟩ := id hv1
  go_enter Try.func7, Try.ntmps7
  by_cases h64 : key.length > 64
  · have h64i : (64 : Int) < (key.length : Int) := by omega
    obtain ⟨H, hH⟩ : ∃ H, H = Sha.of key := ⟨_, rfl⟩
    have hHl : Len H 32 := by rw [hH]; exact Len.of (Sha.of_len _)
    have hHb : Mac.block H = Mac.block key := by rw [hH]; exact Mac.block_hash key h64
    have hsha : ∀ w v, Bytes w v key → Calls Try.prog 18 #[v] w fun e w' => e = .returned (.agg (H.map B8).toArray) ∧ Below w.heap.size w w' := fun w v h => by rw [hH]; exact sha_Of w v key h (by omega)
    clear hH
    go_wp2_with (first | ((first | ((with_reducible refine gL_alloc (dst := some 5) hM ?_); refine ⟨_, _, (zr_of rfl), ?_⟩) | ((with_reducible refine gL_box (dst := some 5) hM ?_); refine ⟨_, _, _, rfl, rfl, (by first | assumption | exact Len.map (by assumption) _ | rfl | exact Len.map (by rfl) _ | exact Len.of (by simp; done)), ?_⟩)); intro g5 _ hM2; clear hM; have hM := hM2; clear hM2) | (go_at_call 18; have hvw := hM.bytes0 hv1; (with_reducible refine (hsha _ _ hvw).mono ?_); clear hvw; rintro _ _ ⟨rfl, B1⟩; replace hM := hM.adds B1; clear B1) |
      ((with_reducible refine gL_store hM ?_); refine ⟨_, _, _, rfl, rfl, hM.stores_all (by (repeat (first | exact .here _ _ _ | apply Has.there)); done) (ag_of rfl) (hHl.map _) (by rfl) B8_one, ?_⟩; intro _ hM2; clear hM; have hM := hM2; clear hM2))
    try simp only [Act.put, List.setIfInBounds_toArray, List.set_cons_succ, List.set_cons_zero]
    refine wp_region_tail 11 (by decide) (fun c vals => ⟨#[(Value.slice ao1 key.length cap1 : Value), (v2 : Value), c 2, c 3, vals 10, (Value.pointer (some ⟨g5, 0, none⟩) : Value), c 6, c 7, c 8, c 9, c 10, c 11, vals 0, vals 1, vals 2, vals 3, vals 4, vals 5, vals 6, vals 7, vals 8, vals 9, c 22, c 23, c 24, c 25, c 26, c 27, c 28, c 29, c 30, c 31, c 32, c 33, c 34, c 35, c 36, c 37, c 38, c 39], []⟩) (fun t => [undef, undef, _, _, undef, undef, _, _, _, _, _, _, undef, undef, undef, undef, undef, undef, undef, undef, undef, undef, _, _, _, _, _, _, _, _, _, _, _, _, _, _, _, _, _, _].getD t undef) (fun i => [_, _, _, _, _, _, _, _, _, _, _].getD i undef) (by kernel_rfl)
      [[], [], [0, 1], [], [], [0, 1, 2, 3, 4], [0, 1, 2, 3, 4, 5], [0, 1, 2, 3, 4, 5, 6], [0, 1, 2, 3, 4, 5, 6, 7], [0, 1, 2, 3, 4, 5, 6, 7, 8], [0, 1, 2, 3, 4, 5, 6, 7, 8, 9]] (by kernel_rfl) (by kernel_rfl) (fun _ => True) trivial
      [fun x _ => x = (Value.slice ao1 key.length cap1 : Value),
       fun x _ => x = (v2 : Value),
       fun x _ => x = (Value.agg (T.map B8).toArray : Value),
       fun x _ => x = (Value.slice (some ⟨g5, 0, none⟩) 32 32 : Value),
       fun x _ => x = (v2 : Value),
       fun x _ => x = (Value.agg (T.map B8).toArray : Value),
       fun x _ => x = (Value.bool true : Value),
       fun x _ => x = (Value.bool true : Value),
       fun x _ => x = (Value.bool true : Value),
       fun x _ => x = (Value.bool true : Value),
       fun x _ => x = (Value.bool true : Value)]
      ⟨fun _ _ _ h _ => h, fun _ _ _ h _ => h, fun _ _ _ h _ => h, fun _ _ _ h _ => h, fun _ _ _ h _ => h, fun _ _ _ h _ => h, fun _ _ _ h _ => h, fun _ _ _ h _ => h, fun _ _ _ h _ => h, fun _ _ _ h _ => h, fun _ _ _ h _ => h, trivial⟩ []
      ⟨?_, ?_, ?_, ?_, ?_, ?_, ?_, ?_, ?_, ?_, ?_, trivial⟩ ?_
    · refine showA_op 0 (by intro _ _ _; kernel_rfl) rfl rfl (fun c vals w hC hD => ?_)
      clear hD
      refine makes1 (x := .tmp 0) (X := Value.slice ao1 key.length cap1) (by kernel_rfl : _ = (Value.slice ao1 key.length cap1 : Value)) (fun ρ rc rf q0 => ?_)
      exact makes_move (.inl rfl) q0 ⟨Adds.refl _, rfl⟩
    · refine showA_op 1 (by intro _ _ _; kernel_rfl) rfl rfl (fun c vals w hC hD => ?_)
      clear hD
      refine makes1 (x := .tmp 1) (X := v2) (by kernel_rfl : _ = (v2 : Value)) (fun ρ rc rf q1 => ?_)
      exact makes_move (.inl rfl) q1 ⟨Adds.refl _, rfl⟩
    · refine showA_op 2 (by intro _ _ _; kernel_rfl) rfl rfl (fun c vals w hC hD => ?_)
      have h0 : vals 0 = .slice ao1 key.length cap1 := hD 0 rfl
      have h1 : vals 1 = v2 := hD 1 rfl
      clear hD
      refine makes2 (x := .tmp 12) (X := Value.slice ao1 key.length cap1) (y := .tmp 13) (Y := v2) ((by kernel_rfl : _ = vals 0).trans h0) ((by kernel_rfl : _ = vals 1).trans h1) (fun ρ rc rf q12 q13 => ?_)
      clear h0 h1
      refine makes_call (hof _ _ key ((hM.adds hC).bytes0 hv1) h1 rfl v2 ((hM.adds hC).bytes0 hv2)) ?_ (by rintro e w' ⟨rfl, hb⟩; exact ⟨_, rfl, hb, rfl⟩)
      go_simp
    · refine showA_op 3 (by intro _ _ _; kernel_rfl) rfl rfl (fun c vals w hC hD => ?_)
      clear hD
      refine makes1 (x := .tmp 5) (X := Value.pointer (some ⟨g5, 0, none⟩)) (by kernel_rfl : _ = (Value.pointer (some ⟨g5, 0, none⟩) : Value)) (fun ρ rc rf q5 => ?_)
      exact makes_slice (slice_arr_all (t := 24) (ua_of rfl) (by exact elOne rfl)) rfl q5 rfl rfl rfl ⟨Adds.refl _, rfl⟩
    · refine showA_op 4 (by intro _ _ _; kernel_rfl) rfl rfl (fun c vals w hC hD => ?_)
      clear hD
      refine makes1 (x := .tmp 1) (X := v2) (by kernel_rfl : _ = (v2 : Value)) (fun ρ rc rf q1 => ?_)
      exact makes_move (.inl rfl) q1 ⟨Adds.refl _, rfl⟩
    · refine showA_op 5 (by intro _ _ _; kernel_rfl) rfl rfl (fun c vals w hC hD => ?_)
      have h3 : vals 3 = .slice (some ⟨g5, 0, none⟩) 32 32 := hD 3 rfl
      have h4 : vals 4 = v2 := hD 4 rfl
      clear hD
      refine makes2 (x := .tmp 15) (X := Value.slice (some ⟨g5, 0, none⟩) 32 32) (y := .tmp 16) (Y := v2) ((by kernel_rfl : _ = vals 3).trans h3) ((by kernel_rfl : _ = vals 4).trans h4) (fun ρ rc rf q15 q16 => ?_)
      clear h3 h4
      refine makes_call (hof _ (.slice (some ⟨g5, 0, none⟩) 32 32) H ((hM.adds hC).whole (ob := some g5) (.head _) hHl (by decide)) (by have := hHl.eq; omega) hHb v2 ((hM.adds hC).bytes0 hv2)) ?_ (by rintro e w' ⟨rfl, hb⟩; exact ⟨_, rfl, hb, rfl⟩)
      go_simp
    · refine showA_op 6 (by intro _ _ _; kernel_rfl) rfl rfl (fun c vals w hC hD => ?_)
      have h2 : vals 2 = .agg (T.map B8).toArray := hD 2 rfl
      have h5 : vals 5 = .agg (T.map B8).toArray := hD 5 rfl
      clear hD
      refine makes2 (x := .tmp 14) (X := Value.agg (T.map B8).toArray) (y := .tmp 17) (Y := Value.agg (T.map B8).toArray) ((by kernel_rfl : _ = vals 2).trans h2) ((by kernel_rfl : _ = vals 5).trans h5) (fun ρ rc rf q14 q17 => ?_)
      clear h2 h5
      exact makes_eql (hash_self _ hTl) rfl q14 q17 ⟨Adds.refl _, rfl⟩
    · refine showA_op 7 (by intro _ _ _; kernel_rfl) rfl rfl (fun c vals w hC hD => ?_)
      have h6 : vals 6 = .bool true := hD 6 rfl
      clear hD
      refine makes1 (x := .tmp 18) (X := Value.bool true) ((by kernel_rfl : _ = vals 6).trans h6) (fun ρ rc rf q18 => ?_)
      clear h6
      exact makes_move (.inl rfl) q18 ⟨Adds.refl _, rfl⟩
    · refine showA_run 8 (by intro _ _ _; kernel_rfl) (j := 7) (want := true) rfl rfl rfl (by intro _ _; kernel_rfl) rfl (fun c vals w hC hD => ⟨hD 7 rfl, ?_⟩)
      clear hD
      refine makes0 (fun ρ rc rf => ?_)
      refine makes_call (law03_fixed _) ?_ (by rintro e w' ⟨rfl, hb⟩; exact ⟨_, rfl, hb, rfl⟩)
      go_simp
    · refine showA_op 9 (by intro _ _ _; kernel_rfl) rfl rfl (fun c vals w hC hD => ?_)
      have h7 : vals 7 = .bool true := hD 7 rfl
      have h8 : vals 8 = .bool true := hD 8 rfl
      clear hD
      refine makes2 (x := .tmp 19) (X := Value.bool true) (y := .tmp 20) (Y := Value.bool true) ((by kernel_rfl : _ = vals 7).trans h7) ((by kernel_rfl : _ = vals 8).trans h8) (fun ρ rc rf q19 q20 => ?_)
      clear h7 h8
      refine makes_value (v := Value.bool true) ?_ ⟨Adds.refl _, rfl⟩
      go_simp
      all_goals first | done | rfl | (rw [if_pos (by omega)]; refine congrArg (fun x => Result.ok (Next.value (Value.pointer (some ⟨_, x, none⟩))) _) ?_; omega) | (rw [wrapP_i64]; omega) | go_num | (simp; done) | (simp; omega) | (congr 1; first | rfl | (rw [wrapP_i64]; omega) | (congr 1; first | rfl | (simp; done) | (simp; omega) | (congr 2; omega) | go_num))
    · refine showA_op 10 (by intro _ _ _; kernel_rfl) rfl rfl (fun c vals w hC hD => ?_)
      have h9 : vals 9 = .bool true := hD 9 rfl
      clear hD
      refine makes1 (x := .tmp 21) (X := Value.bool true) ((by kernel_rfl : _ = vals 9).trans h9) (fun ρ rc rf q21 => ?_)
      clear h9
      exact makes_move (.inr rfl) q21 ⟨Adds.refl _, rfl⟩
    intro vals w' hC hΦ hne
    have h10 : vals 10 = .bool true := hΦ 10 (by decide)
    clear hΦ hne
    simp only [List.getD_eq_getElem?_getD, List.getElem?_cons_zero, List.getElem?_cons_succ, Option.getD_some, List.drop_succ_cons, List.drop_zero]
    simp only [h10]
    clear h10
    try simp only [tuple_undef]
    replace hM := hM.adds hC
    clear hC
    go_wp2_with fail
    go_ret
    exact ⟨rfl, hM.done⟩
  · have h64i : ¬ (64 : Int) < (key.length : Int) := by omega
    have hl0 : Len ([] : List UInt8) 0 := rfl
    have hll : Len key key.length := Len.of rfl
    have hwide : ∀ j, key.length + j = 64 → Mac.block (key ++ List.replicate j 0) = Mac.block key := fun j hj => by
      rw [show j = 64 - key.length from by omega]
      exact Mac.block_wide key h64
    replace hM : Mem [] w0 w0 [⟨none, 5, ([] : List UInt8).map B8, 0⟩] := hM.addNil 5
    go_wp2_with (first | ((with_reducible refine gL_append_B hM ?_); refine ⟨_, _, none, 0, 0, 5, [], key, key.length, fun ob' cap' => [⟨ob', 5, ([] ++ key).map B8, cap'⟩], rfl, rfl, rfl, (us_of rfl), (el_of rfl), (hM.bytes0 hv1).src, fun _ _ => .here _ _ _, hl0, hll, by decide, by omega, ?_⟩; intro ob1 cap2 _ hM2 hc1 hc2; clear hM; have hM := hM2; clear hM2))
    rw [show ([] : List UInt8) ++ key = key ++ List.replicate 0 0 from by simp] at hM
    go_loopw [6] (fun p wr => ∃ (j n : Nat) (ob : Option Nat) (cap : Nat), n = key.length + j ∧ n ≤ 64 ∧ p = sl ob n cap ∧ cap ≤ maxLen ∧ Mem [] w0 wr [⟨ob, 5, (key ++ List.replicate j 0).map B8, cap⟩]) (fun p _ => 64 - slLen p)
    case atStart => exact ⟨0, _, ob1, cap2, rfl, by omega, by simp, hc2, hM⟩
    case round =>
      clear hM hc1 hc2
      obtain ⟨j, n, ob, cap, hn, hn64, rfl, hcap, hM⟩ := hrel
      have hX := hwide j
      have hl3 : Len (key ++ List.replicate j 0) n := Len.of (by simp; omega)
      have hX1 : ∀ _ : Unit, key ++ List.replicate j 0 ++ [0] = key ++ List.replicate (j + 1) 0 := fun _ => by rw [List.replicate_succ', List.append_assoc]
      generalize key ++ List.replicate j 0 = X at *
      have HN : ∀ _ : Unit, n = key.length + j := fun _ => hn
      clear hn
      by_cases hlt : n < 64
      · have hti : (n : Int) < 64 := by omega
        go_wp2_with (first | ((with_reducible refine gL_append_B hM ?_); refine ⟨_, _, ob, n, cap, 5, X, [0], 1, fun ob' cap' => [_, ⟨ob', 5, (X ++ [0]).map B8, cap'⟩], rfl, rfl, rfl, (us_of rfl), (el_of rfl), hM.src (.head _), fun _ _ => .there _ (.here _ _ _), hl3, rfl, hcap, by omega, ?_⟩; intro ob1 cap1 _ hM2 hd1 hd2; clear hM; have hM := hM2; clear hM2) | go_skip | ((first | (with_reducible refine gL_load ?_) | ((with_reducible refine gG_load ?_ ?_); (exact wanted_of rfl rfl rfl rfl rfl))); refine ⟨_, _, rfl, (by (first | (assumption) | (exact hM.loads_B8 (by (repeat (first | exact .head _ | apply List.Mem.tail)); done) (on_of rfl) (by first | omega | (simp only [Len] at *; omega) | (simp; omega))) | (exact hM.loads_all (by (repeat (first | exact .head _ | apply List.Mem.tail)); done) (ag_of rfl) (by first | assumption | exact Len.map (by assumption) _ | rfl | exact Len.map (by rfl) _ | exact Len.of (by simp; done))) | (exact hM.loads_one (by (repeat (first | exact .head _ | apply List.Mem.tail)); done) (on_of rfl) rfl) | (exact hM.loads_W32 (by (repeat (first | exact .head _ | apply List.Mem.tail)); done) (on_of rfl) (by first | omega | (simp only [Len] at *; omega) | (simp; omega))) | (exact loads_cell (by assumption) (on_of rfl)))), ?_⟩) | ((with_reducible refine gL_store hM ?_); refine ⟨_, _, _, rfl, rfl, (by (first | (exact hM.stores_B8 (by first | exact (rfl : B8 _ = B8 _) | exact lit8 _ (by decide)) (by (repeat (first | exact .here _ _ _ | apply Has.there)); done) (on_of rfl) (by first | omega | (simp only [Len] at *; omega) | (simp; omega))) | (exact hM.stores_all (by (repeat (first | exact .here _ _ _ | apply Has.there)); done) (ag_of rfl) (by first | assumption | exact Len.map (by assumption) _ | rfl | exact Len.map (by rfl) _ | exact Len.of (by simp; done)) (by first | assumption | exact Len.map (by assumption) _ | rfl | exact Len.map (by rfl) _ | exact Len.of (by simp; done)) (by first | exact B8_one | exact W32_one | exact one_of_all rfl)) | (exact hM.stores_W32 rfl (by (repeat (first | exact .here _ _ _ | apply Has.there)); done) (on_of rfl) (by first | omega | (simp only [Len] at *; omega) | (simp; omega))) | (exact hM.stores_one (by (repeat (first | exact .here _ _ _ | apply Has.there)); done) (on_of rfl) (by first | omega | (simp only [Len] at *; omega) | (simp; omega)) rfl rfl))), ?_⟩; intro _ hM2; clear hM; have hM := hM2; clear hM2) | ((with_reducible refine gL_alloc hM ?_); refine ⟨_, _, (zr_of rfl), ?_⟩; intro _ _ hM2; clear hM; have hM := hM2; clear hM2) | ((with_reducible refine gL_box hM ?_); refine ⟨_, _, _, rfl, rfl, (by first | assumption | exact Len.map (by assumption) _ | rfl | exact Len.map (by rfl) _ | exact Len.of (by simp; done)), ?_⟩; intro _ _ hM2; clear hM; have hM := hM2; clear hM2) | ((with_reducible refine gL_build0 ?_); refine ⟨_, _, _, _, _, _, (zr_of rfl), (ua_of rfl), (ag_of rfl), (el_of rfl), ?_⟩) | ((with_reducible refine gL_buildBytes hM ?_); refine ⟨_, _, (us_of rfl), (el_of rfl), (by decide), (by decide), rfl, (by (repeat (first | exact EvB.nil | apply EvB.cons rfl (by first | exact (rfl : B8 _ = B8 _) | exact lit8 _ (by decide)))); done), ?_⟩; intro _ _ hM2; clear hM; have hM := hM2; clear hM2) | ((with_reducible refine gL_append_B hM ?_); refine ⟨_, _, _, _, _, _, _, _, _, _, rfl, rfl, (by first | exact (rfl : Value.slice (some ⟨_, 0, none⟩) _ _ = sl (some _) _ _) | exact (rfl : Value.slice none _ _ = sl none _ _) | rfl), (us_of rfl), (el_of rfl), (by first | exact hM.src (by (repeat (first | exact .head _ | apply List.Mem.tail)); done) | exact (hM.bytes0 (by assumption)).src), (fun _ _ => by (repeat (first | exact .here _ _ _ | apply Swap.there)); done), (by first | assumption | exact Len.map (by assumption) _ | rfl | exact Len.map (by rfl) _ | exact Len.of (by simp; done)), (by first | assumption | exact Len.map (by assumption) _ | rfl | exact Len.map (by rfl) _ | exact Len.of (by simp; done)), (by first | assumption | (simp [maxLen]; done) | omega | (simp [maxLen]; omega)), (by first | omega | (simp only [Len] at *; omega) | (simp; omega)), ?_⟩; intro _ _ _ hM2 _ _; clear hM; have hM := hM2; clear hM2) | ((first | (with_reducible refine gL_field ?_) | ((with_reducible refine gG_field ?_ ?_); (exact wanted_of rfl rfl rfl rfl rfl))); refine ⟨_, _, rfl, (by (first | (exact field_one (fb_of rfl) rfl) | (exact field_agg (fa_of rfl) rfl))), ?_⟩))
        have hM1 := hM.drop
        rw [hX1 ()] at hM1
        go_roundw
        case rel => exact ⟨j + 1, n + 1, ob1, cap1, by have := HN (); omega, by omega, rfl, hd2, hM1⟩
        case measure => simp only [slLen]; omega
      · have hne : n = 64 := by omega
        subst hne
        have hXb := hX (HN ()).symm
        obtain ⟨gp, hgp⟩ := hM.some_of (.head _) (hl3.map B8) (by omega)
        subst hgp
        clear hX hX1 HN
        go_wp2_with (first | (go_at_call 31; have hva := hM.bytes0 hv1; have hvb := hM.bytes0 hv2; (with_reducible refine (hof _ _ key hva h1 rfl _ hvb).mono ?_); clear hva hvb; rintro _ _ ⟨rfl, B1⟩; replace hM := hM.adds B1; clear B1) |
          (go_at_call 31; have hva : Bytes _ (.slice (some ⟨gp, 0, none⟩) 64 cap) X := hM.whole (ob := some gp) (.head _) hl3 (by simpa [maxLen] using hcap); have hvb := hM.bytes0 hv2; (with_reducible refine (hof _ _ X hva (by have := hl3.eq; omega) hXb _ hvb).mono ?_); clear hva hvb; rintro _ _ ⟨rfl, B1⟩; replace hM := hM.adds B1; clear B1) |
          ((with_reducible refine gL_eql ?_); refine ⟨_, _, _, rfl, rfl, hash_self _ hTl, ?_⟩) | (go_at_call 27; (with_reducible refine (law03_fixed _).mono ?_); rintro _ _ ⟨rfl, B1⟩; replace hM := hM.adds B1; clear B1))
        go_ret
        exact ⟨rfl, hM.done⟩
end Go.Proofs.Ytejmbkljnhnklaa
