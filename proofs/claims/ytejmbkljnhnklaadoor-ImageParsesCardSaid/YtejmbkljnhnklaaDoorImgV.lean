/-
  The walk of ImageParses.
-/
import Derived.Test.YtejmbkljnhnklaaDoorImgY
namespace Go.Proofs.YtejmbkljnhnklaaDoor
open Go.RowKit Go.PK

set_option maxRecDepth 100000 in
set_option maxHeartbeats 4000000 in
theorem ImageParses_walk (w0 : World) (hg : TypeLaid w0) (v : Value) (l : List (List UInt8)) (hK : (rSlice (rSlice rByte)).K w0 [v] l) (ho : (rSlice (rSlice rByte)).ok l) :
    Calls Tryd.prog 5 #[v] w0 fun e w' => e = .returned (.bool true) ∧ Below w0.heap.size w0 w' := by
  have hbey := fun (w : World) (hb : Adds w0 w) => ref01_Beyond w v l ((rSlice (rSlice rByte)).adds hK hb) ho
  obtain ⟨ao, capl, e1, -, -, -, -⟩ := id hK
  obtain rfl : v = .slice ao l.length capl := by simpa using e1
  clear e1
  have hst : ∀ k (hk : k < l.length), _ := fun k hk => row_later hK hk
  have hokl : ∀ k (hk : k < l.length), l[k].length ≤ 140737488351232 := fun k hk => (ho.2 _ (List.getElem_mem hk)).1
  have hln : l.length ≤ 140737488351232 := ho.1
  clear hK ho
  have hM := Mem.start w0
  have hz := im0_zero
  have hzC := imC_len (x := Img.im0) (Len.rep 32 0) (.slice none 0 0)
  obtain ⟨n, hn⟩ : ∃ n, n = l.length := ⟨_, rfl⟩
  have HN : ∀ _ : Unit, n = l.length := fun _ => hn
  rw [← hn] at hbey hln ⊢
  clear hn
  go_enter Tryd.func5, Tryd.ntmps5
  go_wp2_with fail
  refine (law11_awake _ hg).mono ?_
  rintro _ w1 ⟨rfl, B1⟩
  replace hM := hM.adds B1
  clear B1
  go_wp2_with fail
  refine (hbey _ hM.done).mono ?_
  rintro _ w2 ⟨bb, rfl, rfl⟩
  clear hbey
  cases bb
  case true =>
    go_wp2_with fail
    go_ret
    exact ⟨rfl, hM.done⟩
  go_wp2_with fail
  go_loopw [4, 5, 6, 7, 8, 9, 10, 17] (fun _ _ _ _ _ _ _ i wr => ∃ (k : Nat), k ≤ n ∧ i = .int .i64 k ∧ Mem [] w0 wr []) (fun _ _ _ _ _ _ _ i _ => n - (intOf i).toNat)
  case atStart => exact ⟨0, by omega, rfl, hM⟩
  case round =>
    clear hM
    obtain ⟨k, hk, rfl, hM⟩ := hrel
    by_cases hlt : k < n
    · have hti : (k : Int) < (n : Int) := by omega
      have hkl : k < l.length := by rw [← HN ()]; exact hlt
      obtain ⟨b, off, vB, rfl, hs⟩ := hst k hkl
      have hlen := hokl k hkl
      generalize l[k] = B at *
      have hcB := (hs _ hM.done).1
      rw [Nat.mul_one] at hcB
      have hBy : ∀ w, Adds w0 w → Bytes w vB B := fun w hw => (hs w hw).2
      clear hs hst hokl
      go_wp2_with (first
        | ((with_reducible refine gL_load (dst := some 20) ?_); refine ⟨_, _, rfl, loads_cell hcB (on_of rfl), ?_⟩))
      refine (parse_sum _ _ B (hBy _ hM.done) hlen).mono ?_
      rintro _ w3 ⟨xi, ec, ek, p, ev, hx, hT, rfl, hp1, hp, -, -, htold, B1⟩
      have hM0 := hM.adds B1
      have hM3 := Mem.start w3
      clear hM B1 hcB
      have hM := Mem.start w3
      have hrp := fun w (hb : Adds w0 w) => ref_parse_sum w vB B (hBy w hb) hlen xi ec ek hx
      have hCl := fun p => imC_len hT p
      have hCo := fun p (h : p.oneCell' = true) => im_one xi p h
      clear hx
      go_wp2_with (first
        | ((with_reducible refine gL_alloc (dst := some 5) hM ?_); refine ⟨_, _, hz, ?_⟩; intro g5 _ hM2; clear hM; have hM := hM2; clear hM2)
        | ((with_reducible refine gL_store (x := .tmp 5) hM ?_); refine ⟨_, _, _, rfl, rfl, hM.stores_all (.here _ _ _) (ag_of rfl) (hCl p) hzC (hCo p hp1), ?_⟩; intro wA hM2; clear hM; have hM := hM2; clear hM2))
      have hR5 := hM.rowN (.head _) (hCl p)
      replace hp := hM.bytes0 hp
      replace hM0 := hM0.adds hM.done
      replace hM3 := hM3.adds hM.done
      clear hM
      refine (hrp _ hM0.done).mono ?_
      rintro _ w4 ⟨p2, rfl, hp2, hq, B1⟩
      replace hM0 := hM0.adds B1
      replace hM3 := hM3.adds B1
      replace hp := hp.adds B1
      replace hR5 := ((Mem.start wA).adds B1).row hR5 (by simp)
      clear B1 hrp
      have hM := Mem.start w4
      go_wp2_with (first
        | ((with_reducible refine gL_alloc (dst := some 7) hM ?_); refine ⟨_, _, hz, ?_⟩; intro g7 _ hM2; clear hM; have hM := hM2; clear hM2)
        | ((with_reducible refine gL_alloc (dst := some 8) hM ?_); refine ⟨wrongC 0 0, _, (zr_of rfl), ?_⟩; intro g8 _ hM2; clear hM; have hM := hM2; clear hM2)
        | ((with_reducible refine gL_store (x := .tmp 7) hM ?_); refine ⟨_, _, _, rfl, rfl, hM.stores_all (.there _ (.here _ _ _)) (ag_of rfl) (hCl p2) hzC (hCo p2 hp2), ?_⟩; intro _ hM2; clear hM; have hM := hM2; clear hM2)
        | ((with_reducible refine gL_store (x := .tmp 8) hM ?_); refine ⟨_, _, _, rfl, rfl, hM.stores_all (C1 := wrongC ec ek) (.here _ _ _) (ag_of rfl) rfl rfl (one_of_all rfl), ?_⟩; intro _ hM2; clear hM; have hM := hM2; clear hM2))
      refine (htold _ (hM3.adds hM.done).done (hg.mem (hM0.adds hM.done))).mono ?_
      rintro _ w5 ⟨rfl, B1⟩
      replace hM := hM.adds B1
      clear B1 htold hM3
      go_wp2_with (first
        | ((with_reducible refine gL_alloc (dst := some 9) hM ?_); refine ⟨wrongC 0 0, _, (zr_of rfl), ?_⟩; intro g9 _ hM2; clear hM; have hM := hM2; clear hM2)
        | ((with_reducible refine gL_store (x := .tmp 9) hM ?_); refine ⟨_, _, _, rfl, rfl, hM.stores_all (C1 := wrongC ec ek) (.here _ _ _) (ag_of rfl) rfl rfl (one_of_all rfl), ?_⟩; intro wD hM2; clear hM; have hM := hM2; clear hM2))
      replace hR5 := hM.row hR5 (by simp)
      replace hp := hM.bytes0 hp
      replace hq := hM.bytes0 hq
      replace hM0 := hM0.adds hM.done
      have hl5 : ∀ w', Adds wD w' → Loads Tryd.prog w' 27 ⟨g5, 0, none⟩ (.agg (imC xi p).toArray) := fun w' hb => by
        have hR := ((Mem.start wD).adds hb).row hR5 (by simp)
        have hMr : Mem [g5] w' w' [⟨some g5, 27, imC xi p, (imC xi p).length⟩] := ((Mem.start w').mono (by simp)).take hR (by simp) (by simp)
        have h := hMr.loads_all (P := Tryd.prog) (ty := 27) (.head _) (by rw [(hCl p).eq]; exact (ag_of rfl)) rfl
        exact h
      have hsame : ∀ w', Adds wD w' → _ := fun w' hb => ref11_Same w' xi p p2 (hp.adds hb) (hq.adds hb) hT
      have hbo1 : ∀ w', Adds wD w' → _ := fun w' hb => body_sum w' vB B (hBy _ (hM0.adds hb).done) hlen
      have hbo2 : ∀ w', Adds wD w' → _ := fun w' hb => ref_body_sum w' vB B (hBy _ (hM0.adds hb).done) hlen
      generalize Img.body B = D at *
      clear hR5 hp hq hBy
      try simp only [Act.put, List.setIfInBounds_toArray, List.set_cons_succ, List.set_cons_zero]
      refine wp_region_tail 22 (by decide) (fun c vals => ⟨#[c 0, c 1, c 2, c 3, (vB : Value), (Value.pointer (some ⟨g5, 0, none⟩) : Value), c 6, (Value.pointer (some ⟨g7, 0, none⟩) : Value), (Value.pointer (some ⟨g8, 0, none⟩) : Value), (Value.pointer (some ⟨g9, 0, none⟩) : Value), (Value.bool true : Value), c 11, c 12, c 13, c 14, c 15, c 16, c 17, c 18, c 19, c 20, c 21, c 22, c 23, c 24, c 25, c 26, c 27, c 28, c 29, c 30, c 31, c 32, c 33, c 34, c 35, vals 0, vals 1, vals 2, vals 3, vals 4, vals 5, vals 6, vals 7, vals 8, vals 9, vals 10, vals 11, vals 12, vals 13, vals 14, vals 15, vals 16, vals 17, vals 18, vals 19, vals 20, vals 21, c 58], []⟩) (fun t => [_, _, _, _, undef, undef, _, undef, undef, undef, undef, _, _, _, _, _, _, _, _, _, _, _, _, _, _, _, _, _, _, _, _, _, _, _, _, _, undef, undef, undef, undef, undef, undef, undef, undef, undef, undef, undef, undef, undef, undef, undef, undef, undef, undef, undef, undef, undef, undef, _].getD t undef) (fun i => [_, _, _, _, _, _, _, _, _, _, _, _, _, _, _, _, _, _, _, _, _, _].getD i undef) (by kernel_rfl)
        [[], [0], [0, 1], [0, 1, 2], [0, 1, 2], [0, 1, 2, 3, 4], [0, 1, 2, 3, 4, 5], [0, 1, 2, 3, 4, 5, 6], [0, 1, 2, 3, 4, 5, 6, 7], [0, 1, 2, 3, 4, 5, 6, 7], [0, 1, 2, 3, 4, 5, 6, 7, 8, 9], [0, 1, 2, 3, 4, 5, 6, 7, 8, 9, 10], [0, 1, 2, 3, 4, 5, 6, 7, 8, 9, 10, 11], [0, 1, 2, 3, 4, 5, 6, 7, 8, 9, 10, 11, 12], [0, 1, 2, 3, 4, 5, 6, 7, 8, 9, 10, 11, 12, 13], [0, 1, 2, 3, 4, 5, 6, 7, 8, 9, 10, 11, 12, 13, 14], [0, 1, 2, 3, 4, 5, 6, 7, 8, 9, 10, 11, 12, 13, 14, 15], [0, 1, 2, 3, 4, 5, 6, 7, 8, 9, 10, 11, 12, 13], [0, 1, 2, 3, 4, 5, 6, 7, 8, 9, 10, 11, 12, 13, 14, 15, 17], [0, 1, 2, 3, 4, 5, 6, 7, 8, 9, 10, 11, 12, 13, 14, 15, 17, 18], [0, 1, 2, 3, 4, 5, 6, 7, 8, 9, 10, 11, 12, 13, 14, 15, 16, 17, 18, 19], [0, 1, 2, 3, 4, 5, 6, 7, 8, 9, 10, 11, 12, 13, 14, 15, 16, 17, 18, 19, 20]] (by kernel_rfl) (by kernel_rfl) (fun _ => True) trivial
        [fun x _ => x = (Value.bool true : Value),
         fun x _ => x = (Value.bool false : Value),
         fun x _ => x = (Value.bool false : Value),
         fun x _ => x = (Value.agg (wrongC ec ek).toArray : Value),
         fun x _ => x = (Value.agg (wrongC ec ek).toArray : Value),
         fun x _ => x = (Value.bool false : Value),
         fun x _ => x = (Value.bool false : Value),
         fun x _ => x = (Value.bool false : Value),
         fun x _ => x = (Value.agg (imC xi p).toArray : Value),
         fun x _ => x = (Value.agg (imC xi p2).toArray : Value),
         fun x _ => x = (Value.bool true : Value),
         fun x _ => x = (Value.bool false : Value),
         fun x _ => x = (Value.bool false : Value),
         fun x _ => x = (Value.bool false : Value),
         fun x _ => x = (vB : Value),
         fun x w => Bytes w x (D),
         fun x _ => x = (Value.string ⟨(D).toArray⟩ : Value),
         fun x _ => x = (vB : Value),
         fun x w => Bytes w x (D),
         fun x _ => x = (Value.string ⟨(D).toArray⟩ : Value),
         fun x _ => x = (Value.bool false : Value),
         fun x _ => x = (Value.bool false : Value)]
        ⟨fun _ _ _ h _ => h, fun _ _ _ h _ => h, fun _ _ _ h _ => h, fun _ _ _ h _ => h, fun _ _ _ h _ => h, fun _ _ _ h _ => h, fun _ _ _ h _ => h, fun _ _ _ h _ => h, fun _ _ _ h _ => h, fun _ _ _ h _ => h, fun _ _ _ h _ => h, fun _ _ _ h _ => h, fun _ _ _ h _ => h, fun _ _ _ h _ => h, fun _ _ _ h _ => h, fun _ _ _ h hb => h.adds hb, fun _ _ _ h _ => h, fun _ _ _ h _ => h, fun _ _ _ h hb => h.adds hb, fun _ _ _ h _ => h, fun _ _ _ h _ => h, fun _ _ _ h _ => h, trivial⟩ []
        ⟨?_, ?_, ?_, ?_, ?_, ?_, ?_, ?_, ?_, ?_, ?_, ?_, ?_, ?_, ?_, ?_, ?_, ?_, ?_, ?_, ?_, ?_, trivial⟩ ?_
      · refine showA_op 0 (by intro _ _ _; kernel_rfl) rfl rfl (fun c vals w hC hD => ?_)
        clear hD
        refine makes1 (x := .tmp 10) (X := Value.bool true) (by kernel_rfl : _ = (Value.bool true : Value)) (fun ρ rc rf q10 => ?_)
        exact makes_move (.inl rfl) q10 ⟨Adds.refl _, rfl⟩
      · refine showA_op 1 (by intro _ _ _; kernel_rfl) rfl rfl (fun c vals w hC hD => ?_)
        have h0 : vals 0 = .bool true := hD 0 rfl
        clear hD
        refine makes1 (x := .tmp 36) (X := Value.bool true) ((by kernel_rfl : _ = vals 0).trans h0) (fun ρ rc rf q36 => ?_)
        clear h0
        refine makes_value (v := Value.bool false) ?_ ⟨Adds.refl _, rfl⟩
        go_simp
        all_goals first | done | rfl | (rw [if_pos (by omega)]; refine congrArg (fun x => Result.ok (Next.value (Value.pointer (some ⟨_, x, none⟩))) _) ?_; omega) | (rw [wrapP_i64]; omega) | go_num | (simp; done) | (simp; omega) | (congr 1; first | rfl | (rw [wrapP_i64]; omega) | (congr 1; first | rfl | (simp; done) | (simp; omega) | (congr 2; omega) | go_num))
      · refine showA_op 2 (by intro _ _ _; kernel_rfl) rfl rfl (fun c vals w hC hD => ?_)
        have h1 : vals 1 = .bool false := hD 1 rfl
        clear hD
        refine makes1 (x := .tmp 37) (X := Value.bool false) ((by kernel_rfl : _ = vals 1).trans h1) (fun ρ rc rf q37 => ?_)
        clear h1
        exact makes_move (.inl rfl) q37 ⟨Adds.refl _, rfl⟩
      · refine showA_run 3 (by intro _ _ _; kernel_rfl) (j := 2) (want := false) rfl rfl rfl (by intro _ _; kernel_rfl) rfl (fun c vals w hC hD => ⟨hD 2 rfl, ?_⟩)
        clear hD
        refine makes1 (x := .tmp 9) (X := Value.pointer (some ⟨g9, 0, none⟩)) (by kernel_rfl : _ = (Value.pointer (some ⟨g9, 0, none⟩) : Value)) (fun ρ rc rf q9 => ?_)
        exact makes_load ((hM.adds hC).loads_all (.head _) (ag_of rfl) rfl) rfl q9 ⟨Adds.refl _, rfl⟩
      · refine showA_run 4 (by intro _ _ _; kernel_rfl) (j := 2) (want := false) rfl rfl rfl (by intro _ _; kernel_rfl) rfl (fun c vals w hC hD => ⟨hD 2 rfl, ?_⟩)
        clear hD
        refine makes1 (x := .tmp 8) (X := Value.pointer (some ⟨g8, 0, none⟩)) (by kernel_rfl : _ = (Value.pointer (some ⟨g8, 0, none⟩) : Value)) (fun ρ rc rf q8 => ?_)
        exact makes_load ((hM.adds hC).loads_all (.tail _ (.head _)) (ag_of rfl) rfl) rfl q8 ⟨Adds.refl _, rfl⟩
      · refine showA_run 5 (by intro _ _ _; kernel_rfl) (j := 2) (want := false) rfl rfl rfl (by intro _ _; kernel_rfl) rfl (fun c vals w hC hD => ⟨hD 2 rfl, ?_⟩)
        have h3 : vals 3 = .agg (wrongC ec ek).toArray := hD 3 rfl
        have h4 : vals 4 = .agg (wrongC ec ek).toArray := hD 4 rfl
        clear hD
        refine makes2 (x := .tmp 39) (X := Value.agg (wrongC ec ek).toArray) (y := .tmp 40) (Y := Value.agg (wrongC ec ek).toArray) ((by kernel_rfl : _ = vals 3).trans h3) ((by kernel_rfl : _ = vals 4).trans h4) (fun ρ rc rf q39 q40 => ?_)
        clear h3 h4
        exact makes_neq (wrong_self _ _) rfl q39 q40 ⟨Adds.refl _, rfl⟩
      · refine showA_op 6 (by intro _ _ _; kernel_rfl) rfl rfl (fun c vals w hC hD => ?_)
        have h2 : vals 2 = .bool false := hD 2 rfl
        have h5 : vals 5 = .bool false := hD 5 rfl
        clear hD
        refine makes2 (x := .tmp 38) (X := Value.bool false) (y := .tmp 41) (Y := Value.bool false) ((by kernel_rfl : _ = vals 2).trans h2) ((by kernel_rfl : _ = vals 5).trans h5) (fun ρ rc rf q38 q41 => ?_)
        clear h2 h5
        refine makes_value (v := Value.bool false) ?_ ⟨Adds.refl _, rfl⟩
        go_simp
        all_goals first | done | rfl | (rw [if_pos (by omega)]; refine congrArg (fun x => Result.ok (Next.value (Value.pointer (some ⟨_, x, none⟩))) _) ?_; omega) | (rw [wrapP_i64]; omega) | go_num | (simp; done) | (simp; omega) | (congr 1; first | rfl | (rw [wrapP_i64]; omega) | (congr 1; first | rfl | (simp; done) | (simp; omega) | (congr 2; omega) | go_num))
      · refine showA_op 7 (by intro _ _ _; kernel_rfl) rfl rfl (fun c vals w hC hD => ?_)
        have h6 : vals 6 = .bool false := hD 6 rfl
        clear hD
        refine makes1 (x := .tmp 42) (X := Value.bool false) ((by kernel_rfl : _ = vals 6).trans h6) (fun ρ rc rf q42 => ?_)
        clear h6
        exact makes_move (.inl rfl) q42 ⟨Adds.refl _, rfl⟩
      · refine showA_run 8 (by intro _ _ _; kernel_rfl) (j := 7) (want := false) rfl rfl rfl (by intro _ _; kernel_rfl) rfl (fun c vals w hC hD => ⟨hD 7 rfl, ?_⟩)
        clear hD
        refine makes1 (x := .tmp 5) (X := Value.pointer (some ⟨g5, 0, none⟩)) (by kernel_rfl : _ = (Value.pointer (some ⟨g5, 0, none⟩) : Value)) (fun ρ rc rf q5 => ?_)
        exact makes_load (hl5 _ hC) rfl q5 ⟨Adds.refl _, rfl⟩
      · refine showA_run 9 (by intro _ _ _; kernel_rfl) (j := 7) (want := false) rfl rfl rfl (by intro _ _; kernel_rfl) rfl (fun c vals w hC hD => ⟨hD 7 rfl, ?_⟩)
        clear hD
        refine makes1 (x := .tmp 7) (X := Value.pointer (some ⟨g7, 0, none⟩)) (by kernel_rfl : _ = (Value.pointer (some ⟨g7, 0, none⟩) : Value)) (fun ρ rc rf q7 => ?_)
        exact makes_load ((hM.adds hC).loads_all (.tail _ (.tail _ (.head _))) (ag_of rfl) (hCl p2)) rfl q7 ⟨Adds.refl _, rfl⟩
      · refine showA_run 10 (by intro _ _ _; kernel_rfl) (j := 7) (want := false) rfl rfl rfl (by intro _ _; kernel_rfl) rfl (fun c vals w hC hD => ⟨hD 7 rfl, ?_⟩)
        have h8 : vals 8 = .agg (imC xi p).toArray := hD 8 rfl
        have h9 : vals 9 = .agg (imC xi p2).toArray := hD 9 rfl
        clear hD
        refine makes2 (x := .tmp 44) (X := Value.agg (imC xi p).toArray) (y := .tmp 45) (Y := Value.agg (imC xi p2).toArray) ((by kernel_rfl : _ = vals 8).trans h8) ((by kernel_rfl : _ = vals 9).trans h9) (fun ρ rc rf q44 q45 => ?_)
        clear h8 h9
        refine makes_call (hsame _ hC) ?_ (by rintro e w' ⟨rfl, hb⟩; exact ⟨_, rfl, hb, rfl⟩)
        go_simp
      · refine showA_run 11 (by intro _ _ _; kernel_rfl) (j := 7) (want := false) rfl rfl rfl (by intro _ _; kernel_rfl) rfl (fun c vals w hC hD => ⟨hD 7 rfl, ?_⟩)
        have h10 : vals 10 = .bool true := hD 10 rfl
        clear hD
        refine makes1 (x := .tmp 46) (X := Value.bool true) ((by kernel_rfl : _ = vals 10).trans h10) (fun ρ rc rf q46 => ?_)
        clear h10
        refine makes_value (v := Value.bool false) ?_ ⟨Adds.refl _, rfl⟩
        go_simp
        all_goals first | done | rfl | (rw [if_pos (by omega)]; refine congrArg (fun x => Result.ok (Next.value (Value.pointer (some ⟨_, x, none⟩))) _) ?_; omega) | (rw [wrapP_i64]; omega) | go_num | (simp; done) | (simp; omega) | (congr 1; first | rfl | (rw [wrapP_i64]; omega) | (congr 1; first | rfl | (simp; done) | (simp; omega) | (congr 2; omega) | go_num))
      · refine showA_op 12 (by intro _ _ _; kernel_rfl) rfl rfl (fun c vals w hC hD => ?_)
        have h7 : vals 7 = .bool false := hD 7 rfl
        have h11 : vals 11 = .bool false := hD 11 rfl
        clear hD
        refine makes2 (x := .tmp 43) (X := Value.bool false) (y := .tmp 47) (Y := Value.bool false) ((by kernel_rfl : _ = vals 7).trans h7) ((by kernel_rfl : _ = vals 11).trans h11) (fun ρ rc rf q43 q47 => ?_)
        clear h7 h11
        refine makes_value (v := Value.bool false) ?_ ⟨Adds.refl _, rfl⟩
        go_simp
        all_goals first | done | rfl | (rw [if_pos (by omega)]; refine congrArg (fun x => Result.ok (Next.value (Value.pointer (some ⟨_, x, none⟩))) _) ?_; omega) | (rw [wrapP_i64]; omega) | go_num | (simp; done) | (simp; omega) | (congr 1; first | rfl | (rw [wrapP_i64]; omega) | (congr 1; first | rfl | (simp; done) | (simp; omega) | (congr 2; omega) | go_num))
      · refine showA_op 13 (by intro _ _ _; kernel_rfl) rfl rfl (fun c vals w hC hD => ?_)
        have h12 : vals 12 = .bool false := hD 12 rfl
        clear hD
        refine makes1 (x := .tmp 48) (X := Value.bool false) ((by kernel_rfl : _ = vals 12).trans h12) (fun ρ rc rf q48 => ?_)
        clear h12
        exact makes_move (.inl rfl) q48 ⟨Adds.refl _, rfl⟩
      · refine showA_run 14 (by intro _ _ _; kernel_rfl) (j := 13) (want := false) rfl rfl rfl (by intro _ _; kernel_rfl) rfl (fun c vals w hC hD => ⟨hD 13 rfl, ?_⟩)
        clear hD
        refine makes1 (x := .tmp 4) (X := vB) (by kernel_rfl : _ = (vB : Value)) (fun ρ rc rf q4 => ?_)
        exact makes_move (.inl rfl) q4 ⟨Adds.refl _, rfl⟩
      · refine showA_run 15 (by intro _ _ _; kernel_rfl) (j := 13) (want := false) rfl rfl rfl (by intro _ _; kernel_rfl) rfl (fun c vals w hC hD => ⟨hD 13 rfl, ?_⟩)
        have h14 : vals 14 = vB := hD 14 rfl
        clear hD
        refine makes1 (x := .tmp 50) (X := vB) ((by kernel_rfl : _ = vals 14).trans h14) (fun ρ rc rf q50 => ?_)
        clear h14
        refine makes_call (hbo1 _ hC) ?_ (by rintro e w' ⟨v', rfl, hb1, hb2⟩; exact ⟨_, rfl, hb2, hb1⟩)
        go_simp
      · refine showA_run 16 (by intro _ _ _; kernel_rfl) (j := 13) (want := false) rfl rfl rfl (by intro _ _; kernel_rfl) rfl (fun c vals w hC hD => ⟨hD 13 rfl, ?_⟩)
        have h15 : Bytes w (vals 15) (D) := hD 15 rfl
        clear hD
        refine makes1 (x := .tmp 51) (X := vals 15) (by kernel_rfl : _ = vals 15) (fun ρ rc rf q51 => ?_)
        have hs := str_of h15
        refine makes_value (v := Value.string ⟨(D).toArray⟩) ?_ ⟨Adds.refl _, rfl⟩
        go_simp
      · refine showA_run 17 (by intro _ _ _; kernel_rfl) (j := 13) (want := false) rfl rfl rfl (by intro _ _; kernel_rfl) rfl (fun c vals w hC hD => ⟨hD 13 rfl, ?_⟩)
        clear hD
        refine makes1 (x := .tmp 4) (X := vB) (by kernel_rfl : _ = (vB : Value)) (fun ρ rc rf q4 => ?_)
        exact makes_move (.inl rfl) q4 ⟨Adds.refl _, rfl⟩
      · refine showA_run 18 (by intro _ _ _; kernel_rfl) (j := 13) (want := false) rfl rfl rfl (by intro _ _; kernel_rfl) rfl (fun c vals w hC hD => ⟨hD 13 rfl, ?_⟩)
        have h17 : vals 17 = vB := hD 17 rfl
        clear hD
        refine makes1 (x := .tmp 53) (X := vB) ((by kernel_rfl : _ = vals 17).trans h17) (fun ρ rc rf q53 => ?_)
        clear h17
        refine makes_call (hbo2 _ hC) ?_ (by rintro e w' ⟨v', rfl, hb1, hb2⟩; exact ⟨_, rfl, hb2, hb1⟩)
        go_simp
      · refine showA_run 19 (by intro _ _ _; kernel_rfl) (j := 13) (want := false) rfl rfl rfl (by intro _ _; kernel_rfl) rfl (fun c vals w hC hD => ⟨hD 13 rfl, ?_⟩)
        have h18 : Bytes w (vals 18) (D) := hD 18 rfl
        clear hD
        refine makes1 (x := .tmp 54) (X := vals 18) (by kernel_rfl : _ = vals 18) (fun ρ rc rf q54 => ?_)
        have hs := str_of h18
        refine makes_value (v := Value.string ⟨(D).toArray⟩) ?_ ⟨Adds.refl _, rfl⟩
        go_simp
      · refine showA_run 20 (by intro _ _ _; kernel_rfl) (j := 13) (want := false) rfl rfl rfl (by intro _ _; kernel_rfl) rfl (fun c vals w hC hD => ⟨hD 13 rfl, ?_⟩)
        have h16 : vals 16 = .string ⟨(D).toArray⟩ := hD 16 rfl
        have h19 : vals 19 = .string ⟨(D).toArray⟩ := hD 19 rfl
        clear hD
        refine makes2 (x := .tmp 52) (X := Value.string ⟨(D).toArray⟩) (y := .tmp 55) (Y := Value.string ⟨(D).toArray⟩) ((by kernel_rfl : _ = vals 16).trans h16) ((by kernel_rfl : _ = vals 19).trans h19) (fun ρ rc rf q52 q55 => ?_)
        clear h16 h19
        refine makes_value (v := Value.bool false) ?_ ⟨Adds.refl _, rfl⟩
        go_simp
        all_goals first | done | rfl | (rw [if_pos (by omega)]; refine congrArg (fun x => Result.ok (Next.value (Value.pointer (some ⟨_, x, none⟩))) _) ?_; omega) | (rw [wrapP_i64]; omega) | go_num | (simp; done) | (simp; omega) | (congr 1; first | rfl | (rw [wrapP_i64]; omega) | (congr 1; first | rfl | (simp; done) | (simp; omega) | (congr 2; omega) | go_num))
      · refine showA_op 21 (by intro _ _ _; kernel_rfl) rfl rfl (fun c vals w hC hD => ?_)
        have h13 : vals 13 = .bool false := hD 13 rfl
        have h20 : vals 20 = .bool false := hD 20 rfl
        clear hD
        refine makes2 (x := .tmp 49) (X := Value.bool false) (y := .tmp 56) (Y := Value.bool false) ((by kernel_rfl : _ = vals 13).trans h13) ((by kernel_rfl : _ = vals 20).trans h20) (fun ρ rc rf q49 q56 => ?_)
        clear h13 h20
        refine makes_value (v := Value.bool false) ?_ ⟨Adds.refl _, rfl⟩
        go_simp
        all_goals first | done | rfl | (rw [if_pos (by omega)]; refine congrArg (fun x => Result.ok (Next.value (Value.pointer (some ⟨_, x, none⟩))) _) ?_; omega) | (rw [wrapP_i64]; omega) | go_num | (simp; done) | (simp; omega) | (congr 1; first | rfl | (rw [wrapP_i64]; omega) | (congr 1; first | rfl | (simp; done) | (simp; omega) | (congr 2; omega) | go_num))
      intro vals w' hC hΦ hne
      have h21 : vals 21 = .bool false := hΦ 21 (by decide)
      clear hΦ hne
      simp only [List.getD_eq_getElem?_getD, List.getElem?_cons_zero, List.getElem?_cons_succ, Option.getD_some, List.drop_succ_cons, List.drop_zero]
      simp only [h21]
      clear h21
      try simp only [tuple_undef]
      replace hM0 := hM0.adds hC
      clear hC hsame hbo1 hbo2 hl5
      go_wp2_with fail
      go_roundw
      case rel => exact ⟨k + 1, by omega, by go_num, hM0⟩
      case measure => simp [intOf]; omega
    · have hti : ¬ (k : Int) < (n : Int) := by omega
      go_wp2_with fail
      go_ret
      exact ⟨rfl, hM.done⟩
end Go.Proofs.YtejmbkljnhnklaaDoor
