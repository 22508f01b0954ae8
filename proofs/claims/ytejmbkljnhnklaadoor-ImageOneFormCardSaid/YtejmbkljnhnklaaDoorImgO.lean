/-
  The walk of ImageOneForm.
-/
import Derived.Test.YtejmbkljnhnklaaDoorImgY
namespace Go.Proofs.YtejmbkljnhnklaaDoor
open Go.RowKit Go.PK
theorem parse_sum2 (w0 : World) (v : Value) (b : List UInt8) (hv : Bytes w0 v b) (hbl : b.length ≤ 140737488351232) :
    Calls Tryd.prog 13 #[v] w0 fun e w' => ∃ x ec ek p ev, Img.parse b = (x, (ec, ek)) ∧ Len x.tag 32 ∧ e = .returned (.tuple #[.agg (imC x p).toArray, ev]) ∧ p.oneCell' = true ∧ Bytes w' p x.pay ∧ ((ec, ek) = (0, 0) → ev = .nilIface) ∧ (¬ (ec, ek) = (0, 0) → ∃ a, ev = .iface 52 (.pointer (some ⟨a, 0, none⟩))) ∧
      (∀ w'', Adds w' w'' → TypeLaid w'' → Calls Tryd.prog 15 #[ev] w'' fun e w3 => e = .returned (.tuple #[.agg (wrongC ec ek).toArray, .bool true]) ∧ Below w''.heap.size w'' w3) ∧ Below w0.heap.size w0 w' := by
  refine (image_Parse w0 v b hv hbl).mono ?_
  rintro e w' (⟨x, g, o, cap, n, hx, hpl, htl, rfl, ho, hnc, hc, hbn, hpay, hM⟩ | ⟨ec, ek, g, hx, hne, rfl, hM⟩)
  · refine ⟨x, 0, 0, _, _, hx, htl, rfl, rfl, ?_, fun _ => rfl, fun h => absurd rfl h, fun w'' _ _ => told_nil w'', hM.done⟩
    rcases Nat.eq_zero_or_pos n with h0 | h0
    · subst h0
      rw [show x.pay = [] from List.eq_nil_of_length_eq_zero hpl.eq]
      exact Bytes.none0 _ _
    · obtain rfl := ho h0
      rw [hpay]
      have hcc : cap ≤ 9223372036854775807 := by simpa [maxLen] using hc
      exact hM.part' (.head _) (by omega) (Nat.le_refl _) (by omega)
  · exact ⟨Img.im0, ec, ek, _, _, hx, Len.rep 32 0, rfl, rfl, Bytes.nil _, fun h => absurd (congrArg Prod.fst h) hne, fun _ => ⟨_, rfl⟩, fun w'' hb hg => told_err w'' hg g ec ek ((hM.adds hb).rowN (.head _) rfl) hne, hM.done⟩
theorem tag_bytes1 {G : List Nat} {w0 w : World} {L : List Blk} (hM : Mem G w0 w L) {g : Nat} {t : TypeId} {x : Img.Im} {p : Value} (h : ⟨some g, t, imC x p, 36⟩ ∈ L) (hT : Len x.tag 32) : Bytes w (.slice (some ⟨g, 4, none⟩) 32 32) x.tag := by
  refine ⟨some ⟨g, 4, none⟩, 32, by rw [hT.eq], by rw [hT.eq]; exact Nat.le_refl _, by decide, nofun, fun j hj => ⟨g, 4, rfl, (hM.holds _ h).lt rfl, hM.cell h ?_⟩⟩
  unfold imC
  rw [List.getElem?_append_right (by simp), show 4 + j - ([.int .i64 x.slot, .int .i64 x.key, .int .i64 x.ver, p] : List Value).length = j from by simp, List.getElem?_map, List.getElem?_eq_getElem hj, List.getD_eq_getElem?_getD, List.getElem?_eq_getElem hj]
  rfl

set_option maxRecDepth 100000 in
set_option maxHeartbeats 4000000 in
theorem ImageOneForm_walk (w0 : World) (hg : TypeLaid w0) (v : Value) (s : List UInt8) (hs : Bytes w0 v s) (hsl : s.length ≤ 140737488351232) (vb : Value) (B : List UInt8) (hb : Bytes w0 vb B) (hbl : B.length ≤ 140737488351232) :
    Calls Tryd.prog 7 #[v, vb] w0 fun e w' => e = .returned (.bool true) ∧ Below w0.heap.size w0 w' := by
  have hM := Mem.start w0
  have hz := im0_zero
  have hzC := imC_len (x := Img.im0) (Len.rep 32 0) (.slice none 0 0)
  obtain ⟨nb, hnb⟩ : ∃ n, B.length = n := ⟨_, rfl⟩
  obtain ⟨ao, cap0, rfl, g1, g2, -⟩ := id hb
  rw [hnb] at hbl g1 hb ⊢
  have hbl2 : Len B nb := Len.of hnb
  go_enter Tryd.func7, Tryd.ntmps7
  go_wp2_with fail
  refine (law11_awake _ hg).mono ?_
  rintro _ w1 ⟨rfl, B1⟩
  replace hM := hM.adds B1
  clear B1
  go_wp2_with fail
  refine (parse_sum2 _ _ B (hM.bytes0 hb) (by rw [hnb]; exact hbl)).mono ?_
  rintro _ w3 ⟨xi, ec, ek, p, ev, hx, hT, rfl, hp1, hp, hnil, hbad, htold, B1⟩
  have hM0 := hM.adds B1
  have hM3 := Mem.start w3
  clear hM B1
  have hM := Mem.start w3
  have hCl := imC_len hT p
  have hCo := im_one xi p hp1
  go_wp2_with (first
    | ((with_reducible refine gL_alloc (dst := some 5) hM ?_); refine ⟨_, _, hz, ?_⟩; intro g5 _ hM2; clear hM; have hM := hM2; clear hM2)
    | ((with_reducible refine gL_store (x := .tmp 5) hM ?_); refine ⟨_, _, _, rfl, rfl, hM.stores_all (.here _ _ _) (ag_of rfl) hCl hzC hCo, ?_⟩; intro wA hM2; clear hM; have hM := hM2; clear hM2))
  have hM00 := hM0
  have hp3 := hp
  replace hM0 := hM0.adds hM.done
  replace hM3 := hM3.adds hM.done
  replace hp := hM.bytes0 hp
  by_cases hok : (ec, ek) = (0, 0)
  · obtain rfl := hnil hok
    cases hok
    obtain ⟨hmay, hlen, hcov, htag, -⟩ := Img.made_parse hx
    have h1 : ∀ w, Adds wA w → _ := fun w hw => make_sum w v s ((hM0.adds hw).bytes0 hs) hsl xi p (hp.adds hw) hT
    obtain ⟨T2, hTT⟩ : ∃ T2, Mac.tag s (Img.cover xi) = T2 := ⟨_, rfl⟩
    have hT2 : Len T2 32 := by rw [← hTT]; exact Len.of (Mac.tag_len _ _)
    rw [make_yes hmay hTT] at h1
    obtain ⟨mb, hmb⟩ : ∃ mb, mb = nb - 32 := ⟨_, rfl⟩
    have hn32 : 32 ≤ nb := by omega
    rw [hnb, ← hmb] at hcov htag
    have hcl : Len (Img.cover xi) mb := Len.of (by rw [hcov, List.length_take, hnb]; omega)
    have hRl : Len (Img.cover xi ++ T2) nb := Len.of (by rw [List.length_append, hcl.eq, hT2.eq]; omega)
    have hb1 : Img.body (Img.cover xi ++ T2) = Img.cover xi := by rw [body_long hRl (by omega), ← hmb]; exact List.take_left' hcl.eq
    have hb2 : Img.body B = Img.cover xi := by rw [body_long hbl2 (by omega), ← hmb, hcov]
    have he : (nb : Int) - 32 = (mb : Int) := by omega
    have hmm : nb - mb = 32 := by omega
    have hml : mb ≤ nb := by omega
    clear hnil hbad hx hTT hmay hlen htold hM3 hmb
    generalize Img.cover xi = R at *
    have HTAG : ∀ _ : Unit, xi.tag = B.drop mb := fun _ => htag
    clear hcov htag
    go_wp2_with (first
      | ((with_reducible refine gL_load (dst := some 45) ?_); refine ⟨_, _, rfl, hM.loads_all (.head _) (ag_of rfl) hCl, ?_⟩))
    refine (h1 _ (Below.refl _ _)).mono ?_
    rintro _ w5 ⟨ac, m', cap, rfl, hm1, hc, B1⟩
    obtain rfl : nb = m' := hRl.eq.symm.trans hm1.eq
    replace hM := hM.adds B1
    replace hM0 := hM0.adds B1
    clear B1 h1 hm1 hp
    have hbw := hM0.bytes0 hb
    obtain ⟨aoT, hST, hBT, -⟩ := bytes_from (P := Tryd.prog) hbw (t := 23) (us_of rfl) (by exact elOne rfl) (k := mb) (by omega)
    rw [hmm, ← HTAG ()] at hBT
    rw [hmm] at hST
    have hbo1 : ∀ w', Adds w5 w' → _ := fun w' hw => body_sum w' _ _ (hc.adds hw) (by rw [hRl.eq]; exact hbl)
    have hbo2 : ∀ w', Adds w5 w' → _ := fun w' hw => body_sum w' _ _ (hbw.adds hw) (by rw [hbl2.eq]; exact hbl)
    rw [hb1] at hbo1
    rw [hb2] at hbo2
    go_wp2_with fail
    try simp only [Act.put, List.setIfInBounds_toArray, List.set_cons_succ, List.set_cons_zero]
    refine wp_region_tail 31 (by decide) (fun c vals => ⟨#[c 0, (Value.slice ao nb cap0 : Value), c 2, c 3, vals 30, (Value.pointer (some ⟨g5, 0, none⟩) : Value), c 6, c 7, c 8, (Value.slice ac nb cap : Value), (Value.int .i64 ((0 : Nat) : Int) : Value), c 11, c 12, c 13, c 14, c 15, c 16, c 17, c 18, c 19, c 20, c 21, c 22, c 23, c 24, c 25, c 26, c 27, c 28, c 29, c 30, c 31, c 32, c 33, c 34, c 35, c 36, c 37, c 38, c 39, c 40, c 41, c 42, c 43, c 44, c 45, c 46, c 47, c 48, vals 0, vals 1, vals 2, vals 3, vals 4, vals 5, vals 6, vals 7, vals 8, vals 9, vals 10, vals 11, vals 12, vals 13, vals 14, vals 15, vals 16, vals 17, vals 18, vals 19, vals 20, vals 21, vals 22, vals 23, vals 24, vals 25, vals 26, vals 27, vals 28, vals 29], []⟩) (fun t => [_, undef, _, _, undef, undef, _, _, _, undef, undef, _, _, _, _, _, _, _, _, _, _, _, _, _, _, _, _, _, _, _, _, _, _, _, _, _, _, _, _, _, _, _, _, _, _, _, _, _, _, undef, undef, undef, undef, undef, undef, undef, undef, undef, undef, undef, undef, undef, undef, undef, undef, undef, undef, undef, undef, undef, undef, undef, undef, undef, undef, undef, undef, undef, undef].getD t undef) (fun i => [_, _, _, _, _, _, _, _, _, _, _, _, _, _, _, _, _, _, _, _, _, _, _, _, _, _, _, _, _, _, _].getD i undef) (by kernel_rfl)
      [[], [0], [0, 1], [0, 1, 2], [0, 1, 2, 3], [0, 1, 2], [0, 1, 2, 5], [0, 1, 2, 3, 4, 5, 6], [0, 1, 2, 3, 4, 5, 6, 7], [0, 1, 2, 3, 4, 5, 6, 7, 8], [0, 1, 2, 3, 4, 5, 6, 7, 8, 9], [0, 1, 2, 3, 4, 5, 6, 7, 8, 9, 10], [0, 1, 2, 3, 4, 5, 6, 7, 8, 9, 10, 11], [0, 1, 2, 3, 4, 5, 6, 7, 8, 9], [0, 1, 2, 3, 4, 5, 6, 7, 8, 9, 10, 11, 13], [0, 1, 2, 3, 4, 5, 6, 7, 8, 9, 10, 11, 13, 14], [0, 1, 2, 3, 4, 5, 6, 7, 8, 9, 10, 11, 12, 13, 14, 15], [0, 1, 2, 3, 4, 5, 6, 7, 8, 9, 10, 11, 12, 13, 14, 15, 16], [0, 1, 2, 3, 4, 5, 6, 7, 8, 9, 10, 11, 12, 13, 14, 15, 16, 17], [0, 1, 2, 3, 4, 5, 6, 7, 8, 9, 10, 11, 12, 13, 14, 15, 16, 17, 18], [0, 1, 2, 3, 4, 5, 6, 7, 8, 9, 10, 11, 12, 13, 14, 15, 16, 17, 18], [0, 1, 2, 3, 4, 5, 6, 7, 8, 9, 10, 11, 12, 13, 14, 15, 16, 17, 18, 20], [0, 1, 2, 3, 4, 5, 6, 7, 8, 9, 10, 11, 12, 13, 14, 15, 16, 17, 18, 20, 21], [0, 1, 2, 3, 4, 5, 6, 7, 8, 9, 10, 11, 12, 13, 14, 15, 16, 17, 18, 19, 20, 21, 22], [0, 1, 2, 3, 4, 5, 6, 7, 8, 9, 10, 11, 12, 13, 14, 15, 16, 17, 18, 19, 20, 21, 22, 23], [0, 1, 2, 3, 4, 5, 6, 7, 8, 9, 10, 11, 12, 13, 14, 15, 16, 17, 18], [0, 1, 2, 3, 4, 5, 6, 7, 8, 9, 10, 11, 12, 13, 14, 15, 16, 17, 18, 25], [0, 1, 2, 3, 4, 5, 6, 7, 8, 9, 10, 11, 12, 13, 14, 15, 16, 17, 18, 25, 26], [0, 1, 2, 3, 4, 5, 6, 7, 8, 9, 10, 11, 12, 13, 14, 15, 16, 17, 18, 19, 20, 21, 22, 23, 24, 25, 26, 27], [0, 1, 2, 3, 4, 5, 6, 7, 8, 9, 10, 11, 12, 13, 14, 15, 16, 17, 18, 19, 20, 21, 22, 23, 24, 25, 26, 27, 28], [0, 1, 2, 3, 4, 5, 6, 7, 8, 9, 10, 11, 12, 13, 14, 15, 16, 17, 18, 19, 20, 21, 22, 23, 24, 25, 26, 27, 28, 29]] (by kernel_rfl) (by kernel_rfl) (fun _ => True) trivial
      [fun x _ => x = (Value.int .i64 ((0 : Nat) : Int) : Value),
       fun x _ => x = (Value.bool true : Value),
       fun x _ => x = (Value.bool true : Value),
       fun x _ => x = (Value.slice ac nb cap : Value),
       fun x _ => x = (Value.int .i64 (nb : Int) : Value),
       fun x _ => x = (Value.slice ao nb cap0 : Value),
       fun x _ => x = (Value.int .i64 (nb : Int) : Value),
       fun x _ => x = (Value.bool true : Value),
       fun x _ => x = (Value.bool true : Value),
       fun x _ => x = (Value.bool true : Value),
       fun x _ => x = (Value.slice ac nb cap : Value),
       fun x w => Bytes w x (R),
       fun x _ => x = (Value.string ⟨(R).toArray⟩ : Value),
       fun x _ => x = (Value.slice ao nb cap0 : Value),
       fun x w => Bytes w x (R),
       fun x _ => x = (Value.string ⟨(R).toArray⟩ : Value),
       fun x _ => x = (Value.bool true : Value),
       fun x _ => x = (Value.bool true : Value),
       fun x _ => x = (Value.bool true : Value),
       fun x _ => x = (Value.slice ao nb cap0 : Value),
       fun x _ => x = (Value.slice ao nb cap0 : Value),
       fun x _ => x = (Value.int .i64 (nb : Int) : Value),
       fun x _ => x = (Value.int .i64 (mb : Int) : Value),
       fun x _ => x = (Value.slice aoT 32 (cap0 - mb) : Value),
       fun x _ => x = (Value.string ⟨xi.tag.toArray⟩ : Value),
       fun x _ => x = (Value.pointer (some ⟨g5, 4, none⟩) : Value),
       fun x _ => x = (Value.slice (some ⟨g5, 4, none⟩) 32 32 : Value),
       fun x _ => x = (Value.string ⟨xi.tag.toArray⟩ : Value),
       fun x _ => x = (Value.bool true : Value),
       fun x _ => x = (Value.bool true : Value),
       fun x _ => x = (Value.bool true : Value)]
      ⟨fun _ _ _ h _ => h, fun _ _ _ h _ => h, fun _ _ _ h _ => h, fun _ _ _ h _ => h, fun _ _ _ h _ => h, fun _ _ _ h _ => h, fun _ _ _ h _ => h, fun _ _ _ h _ => h, fun _ _ _ h _ => h, fun _ _ _ h _ => h, fun _ _ _ h _ => h, fun _ _ _ h hb => h.adds hb, fun _ _ _ h _ => h, fun _ _ _ h _ => h, fun _ _ _ h hb => h.adds hb, fun _ _ _ h _ => h, fun _ _ _ h _ => h, fun _ _ _ h _ => h, fun _ _ _ h _ => h, fun _ _ _ h _ => h, fun _ _ _ h _ => h, fun _ _ _ h _ => h, fun _ _ _ h _ => h, fun _ _ _ h _ => h, fun _ _ _ h _ => h, fun _ _ _ h _ => h, fun _ _ _ h _ => h, fun _ _ _ h _ => h, fun _ _ _ h _ => h, fun _ _ _ h _ => h, fun _ _ _ h _ => h, trivial⟩ []
      ⟨?_, ?_, ?_, ?_, ?_, ?_, ?_, ?_, ?_, ?_, ?_, ?_, ?_, ?_, ?_, ?_, ?_, ?_, ?_, ?_, ?_, ?_, ?_, ?_, ?_, ?_, ?_, ?_, ?_, ?_, ?_, trivial⟩ ?_
    · refine showA_op 0 (by intro _ _ _; kernel_rfl) rfl rfl (fun c vals w hC hD => ?_)
      clear hD
      refine makes1 (x := .tmp 10) (X := Value.int .i64 ((0 : Nat) : Int)) (by kernel_rfl : _ = (Value.int .i64 ((0 : Nat) : Int) : Value)) (fun ρ rc rf q10 => ?_)
      exact makes_move (.inl rfl) q10 ⟨Adds.refl _, rfl⟩
    · refine showA_op 1 (by intro _ _ _; kernel_rfl) rfl rfl (fun c vals w hC hD => ?_)
      have h0 : vals 0 = .int .i64 ((0 : Nat) : Int) := hD 0 rfl
      clear hD
      refine makes1 (x := .tmp 49) (X := Value.int .i64 ((0 : Nat) : Int)) ((by kernel_rfl : _ = vals 0).trans h0) (fun ρ rc rf q49 => ?_)
      clear h0
      (refine makes_value (v := .bool true) ?_ ⟨Adds.refl _, rfl⟩; go_simp)
    · refine showA_op 2 (by intro _ _ _; kernel_rfl) rfl rfl (fun c vals w hC hD => ?_)
      have h1 : vals 1 = .bool true := hD 1 rfl
      clear hD
      refine makes1 (x := .tmp 50) (X := Value.bool true) ((by kernel_rfl : _ = vals 1).trans h1) (fun ρ rc rf q50 => ?_)
      clear h1
      exact makes_move (.inl rfl) q50 ⟨Adds.refl _, rfl⟩
    · refine showA_run 3 (by intro _ _ _; kernel_rfl) (j := 2) (want := true) rfl rfl rfl (by intro _ _; kernel_rfl) rfl (fun c vals w hC hD => ⟨hD 2 rfl, ?_⟩)
      clear hD
      refine makes1 (x := .tmp 9) (X := Value.slice ac nb cap) (by kernel_rfl : _ = (Value.slice ac nb cap : Value)) (fun ρ rc rf q9 => ?_)
      exact makes_move (.inl rfl) q9 ⟨Adds.refl _, rfl⟩
    · refine showA_run 4 (by intro _ _ _; kernel_rfl) (j := 2) (want := true) rfl rfl rfl (by intro _ _; kernel_rfl) rfl (fun c vals w hC hD => ⟨hD 2 rfl, ?_⟩)
      have h3 : vals 3 = .slice ac nb cap := hD 3 rfl
      clear hD
      refine makes1 (x := .tmp 52) (X := Value.slice ac nb cap) ((by kernel_rfl : _ = vals 3).trans h3) (fun ρ rc rf q52 => ?_)
      clear h3
      refine makes_value (v := Value.int .i64 (nb : Int)) ?_ ⟨Adds.refl _, rfl⟩
      go_simp
      all_goals first | done | rfl | (rw [if_pos (by omega)]; refine congrArg (fun x => Result.ok (Next.value (Value.pointer (some ⟨_, x, none⟩))) _) ?_; omega) | (rw [wrapP_i64]; omega) | go_num | (simp; done) | (simp; omega) | (congr 1; first | rfl | (rw [wrapP_i64]; omega) | (congr 1; first | rfl | (simp; done) | (simp; omega) | (congr 2; omega) | go_num))
    · refine showA_run 5 (by intro _ _ _; kernel_rfl) (j := 2) (want := true) rfl rfl rfl (by intro _ _; kernel_rfl) rfl (fun c vals w hC hD => ⟨hD 2 rfl, ?_⟩)
      clear hD
      refine makes1 (x := .tmp 1) (X := Value.slice ao nb cap0) (by kernel_rfl : _ = (Value.slice ao nb cap0 : Value)) (fun ρ rc rf q1 => ?_)
      exact makes_move (.inl rfl) q1 ⟨Adds.refl _, rfl⟩
    · refine showA_run 6 (by intro _ _ _; kernel_rfl) (j := 2) (want := true) rfl rfl rfl (by intro _ _; kernel_rfl) rfl (fun c vals w hC hD => ⟨hD 2 rfl, ?_⟩)
      have h5 : vals 5 = .slice ao nb cap0 := hD 5 rfl
      clear hD
      refine makes1 (x := .tmp 54) (X := Value.slice ao nb cap0) ((by kernel_rfl : _ = vals 5).trans h5) (fun ρ rc rf q54 => ?_)
      clear h5
      refine makes_value (v := Value.int .i64 (nb : Int)) ?_ ⟨Adds.refl _, rfl⟩
      go_simp
      all_goals first | done | rfl | (rw [if_pos (by omega)]; refine congrArg (fun x => Result.ok (Next.value (Value.pointer (some ⟨_, x, none⟩))) _) ?_; omega) | (rw [wrapP_i64]; omega) | go_num | (simp; done) | (simp; omega) | (congr 1; first | rfl | (rw [wrapP_i64]; omega) | (congr 1; first | rfl | (simp; done) | (simp; omega) | (congr 2; omega) | go_num))
    · refine showA_run 7 (by intro _ _ _; kernel_rfl) (j := 2) (want := true) rfl rfl rfl (by intro _ _; kernel_rfl) rfl (fun c vals w hC hD => ⟨hD 2 rfl, ?_⟩)
      have h4 : vals 4 = .int .i64 (nb : Int) := hD 4 rfl
      have h6 : vals 6 = .int .i64 (nb : Int) := hD 6 rfl
      clear hD
      refine makes2 (x := .tmp 53) (X := Value.int .i64 (nb : Int)) (y := .tmp 55) (Y := Value.int .i64 (nb : Int)) ((by kernel_rfl : _ = vals 4).trans h4) ((by kernel_rfl : _ = vals 6).trans h6) (fun ρ rc rf q53 q55 => ?_)
      clear h4 h6
      (refine makes_value (v := .bool true) ?_ ⟨Adds.refl _, rfl⟩; go_simp)
    · refine showA_op 8 (by intro _ _ _; kernel_rfl) rfl rfl (fun c vals w hC hD => ?_)
      have h2 : vals 2 = .bool true := hD 2 rfl
      have h7 : vals 7 = .bool true := hD 7 rfl
      clear hD
      refine makes2 (x := .tmp 51) (X := Value.bool true) (y := .tmp 56) (Y := Value.bool true) ((by kernel_rfl : _ = vals 2).trans h2) ((by kernel_rfl : _ = vals 7).trans h7) (fun ρ rc rf q51 q56 => ?_)
      clear h2 h7
      refine makes_value (v := Value.bool true) ?_ ⟨Adds.refl _, rfl⟩
      go_simp
      all_goals first | done | rfl | (rw [if_pos (by omega)]; refine congrArg (fun x => Result.ok (Next.value (Value.pointer (some ⟨_, x, none⟩))) _) ?_; omega) | (rw [wrapP_i64]; omega) | go_num | (simp; done) | (simp; omega) | (congr 1; first | rfl | (rw [wrapP_i64]; omega) | (congr 1; first | rfl | (simp; done) | (simp; omega) | (congr 2; omega) | go_num))
    · refine showA_op 9 (by intro _ _ _; kernel_rfl) rfl rfl (fun c vals w hC hD => ?_)
      have h8 : vals 8 = .bool true := hD 8 rfl
      clear hD
      refine makes1 (x := .tmp 57) (X := Value.bool true) ((by kernel_rfl : _ = vals 8).trans h8) (fun ρ rc rf q57 => ?_)
      clear h8
      exact makes_move (.inl rfl) q57 ⟨Adds.refl _, rfl⟩
    · refine showA_run 10 (by intro _ _ _; kernel_rfl) (j := 9) (want := true) rfl rfl rfl (by intro _ _; kernel_rfl) rfl (fun c vals w hC hD => ⟨hD 9 rfl, ?_⟩)
      clear hD
      refine makes1 (x := .tmp 9) (X := Value.slice ac nb cap) (by kernel_rfl : _ = (Value.slice ac nb cap : Value)) (fun ρ rc rf q9 => ?_)
      exact makes_move (.inl rfl) q9 ⟨Adds.refl _, rfl⟩
    · refine showA_run 11 (by intro _ _ _; kernel_rfl) (j := 9) (want := true) rfl rfl rfl (by intro _ _; kernel_rfl) rfl (fun c vals w hC hD => ⟨hD 9 rfl, ?_⟩)
      have h10 : vals 10 = .slice ac nb cap := hD 10 rfl
      clear hD
      refine makes1 (x := .tmp 59) (X := Value.slice ac nb cap) ((by kernel_rfl : _ = vals 10).trans h10) (fun ρ rc rf q59 => ?_)
      clear h10
      refine makes_call (hbo1 _ hC) ?_ (by rintro e w' ⟨v', rfl, hb1, hb2⟩; exact ⟨_, rfl, hb2, hb1⟩)
      go_simp
    · refine showA_run 12 (by intro _ _ _; kernel_rfl) (j := 9) (want := true) rfl rfl rfl (by intro _ _; kernel_rfl) rfl (fun c vals w hC hD => ⟨hD 9 rfl, ?_⟩)
      have h11 : Bytes w (vals 11) (R) := hD 11 rfl
      clear hD
      refine makes1 (x := .tmp 60) (X := vals 11) (by kernel_rfl : _ = vals 11) (fun ρ rc rf q60 => ?_)
      have hs := str_of h11
      refine makes_value (v := Value.string ⟨(R).toArray⟩) ?_ ⟨Adds.refl _, rfl⟩
      go_simp
    · refine showA_run 13 (by intro _ _ _; kernel_rfl) (j := 9) (want := true) rfl rfl rfl (by intro _ _; kernel_rfl) rfl (fun c vals w hC hD => ⟨hD 9 rfl, ?_⟩)
      clear hD
      refine makes1 (x := .tmp 1) (X := Value.slice ao nb cap0) (by kernel_rfl : _ = (Value.slice ao nb cap0 : Value)) (fun ρ rc rf q1 => ?_)
      exact makes_move (.inl rfl) q1 ⟨Adds.refl _, rfl⟩
    · refine showA_run 14 (by intro _ _ _; kernel_rfl) (j := 9) (want := true) rfl rfl rfl (by intro _ _; kernel_rfl) rfl (fun c vals w hC hD => ⟨hD 9 rfl, ?_⟩)
      have h13 : vals 13 = .slice ao nb cap0 := hD 13 rfl
      clear hD
      refine makes1 (x := .tmp 62) (X := Value.slice ao nb cap0) ((by kernel_rfl : _ = vals 13).trans h13) (fun ρ rc rf q62 => ?_)
      clear h13
      refine makes_call (hbo2 _ hC) ?_ (by rintro e w' ⟨v', rfl, hb1, hb2⟩; exact ⟨_, rfl, hb2, hb1⟩)
      go_simp
    · refine showA_run 15 (by intro _ _ _; kernel_rfl) (j := 9) (want := true) rfl rfl rfl (by intro _ _; kernel_rfl) rfl (fun c vals w hC hD => ⟨hD 9 rfl, ?_⟩)
      have h14 : Bytes w (vals 14) (R) := hD 14 rfl
      clear hD
      refine makes1 (x := .tmp 63) (X := vals 14) (by kernel_rfl : _ = vals 14) (fun ρ rc rf q63 => ?_)
      have hs := str_of h14
      refine makes_value (v := Value.string ⟨(R).toArray⟩) ?_ ⟨Adds.refl _, rfl⟩
      go_simp
    · refine showA_run 16 (by intro _ _ _; kernel_rfl) (j := 9) (want := true) rfl rfl rfl (by intro _ _; kernel_rfl) rfl (fun c vals w hC hD => ⟨hD 9 rfl, ?_⟩)
      have h12 : vals 12 = .string ⟨(R).toArray⟩ := hD 12 rfl
      have h15 : vals 15 = .string ⟨(R).toArray⟩ := hD 15 rfl
      clear hD
      refine makes2 (x := .tmp 61) (X := Value.string ⟨(R).toArray⟩) (y := .tmp 64) (Y := Value.string ⟨(R).toArray⟩) ((by kernel_rfl : _ = vals 12).trans h12) ((by kernel_rfl : _ = vals 15).trans h15) (fun ρ rc rf q61 q64 => ?_)
      clear h12 h15
      refine makes_value (v := Value.bool true) ?_ ⟨Adds.refl _, rfl⟩
      go_simp
      all_goals first | done | rfl | (rw [if_pos (by omega)]; refine congrArg (fun x => Result.ok (Next.value (Value.pointer (some ⟨_, x, none⟩))) _) ?_; omega) | (rw [wrapP_i64]; omega) | go_num | (simp; done) | (simp; omega) | (congr 1; first | rfl | (rw [wrapP_i64]; omega) | (congr 1; first | rfl | (simp; done) | (simp; omega) | (congr 2; omega) | go_num))
    · refine showA_op 17 (by intro _ _ _; kernel_rfl) rfl rfl (fun c vals w hC hD => ?_)
      have h9 : vals 9 = .bool true := hD 9 rfl
      have h16 : vals 16 = .bool true := hD 16 rfl
      clear hD
      refine makes2 (x := .tmp 58) (X := Value.bool true) (y := .tmp 65) (Y := Value.bool true) ((by kernel_rfl : _ = vals 9).trans h9) ((by kernel_rfl : _ = vals 16).trans h16) (fun ρ rc rf q58 q65 => ?_)
      clear h9 h16
      refine makes_value (v := Value.bool true) ?_ ⟨Adds.refl _, rfl⟩
      go_simp
      all_goals first | done | rfl | (rw [if_pos (by omega)]; refine congrArg (fun x => Result.ok (Next.value (Value.pointer (some ⟨_, x, none⟩))) _) ?_; omega) | (rw [wrapP_i64]; omega) | go_num | (simp; done) | (simp; omega) | (congr 1; first | rfl | (rw [wrapP_i64]; omega) | (congr 1; first | rfl | (simp; done) | (simp; omega) | (congr 2; omega) | go_num))
    · refine showA_op 18 (by intro _ _ _; kernel_rfl) rfl rfl (fun c vals w hC hD => ?_)
      have h17 : vals 17 = .bool true := hD 17 rfl
      clear hD
      refine makes1 (x := .tmp 66) (X := Value.bool true) ((by kernel_rfl : _ = vals 17).trans h17) (fun ρ rc rf q66 => ?_)
      clear h17
      exact makes_move (.inl rfl) q66 ⟨Adds.refl _, rfl⟩
    · refine showA_run 19 (by intro _ _ _; kernel_rfl) (j := 18) (want := true) rfl rfl rfl (by intro _ _; kernel_rfl) rfl (fun c vals w hC hD => ⟨hD 18 rfl, ?_⟩)
      clear hD
      refine makes1 (x := .tmp 1) (X := Value.slice ao nb cap0) (by kernel_rfl : _ = (Value.slice ao nb cap0 : Value)) (fun ρ rc rf q1 => ?_)
      exact makes_move (.inl rfl) q1 ⟨Adds.refl _, rfl⟩
    · refine showA_run 20 (by intro _ _ _; kernel_rfl) (j := 18) (want := true) rfl rfl rfl (by intro _ _; kernel_rfl) rfl (fun c vals w hC hD => ⟨hD 18 rfl, ?_⟩)
      clear hD
      refine makes1 (x := .tmp 1) (X := Value.slice ao nb cap0) (by kernel_rfl : _ = (Value.slice ao nb cap0 : Value)) (fun ρ rc rf q1 => ?_)
      exact makes_move (.inl rfl) q1 ⟨Adds.refl _, rfl⟩
    · refine showA_run 21 (by intro _ _ _; kernel_rfl) (j := 18) (want := true) rfl rfl rfl (by intro _ _; kernel_rfl) rfl (fun c vals w hC hD => ⟨hD 18 rfl, ?_⟩)
      have h20 : vals 20 = .slice ao nb cap0 := hD 20 rfl
      clear hD
      refine makes1 (x := .tmp 69) (X := Value.slice ao nb cap0) ((by kernel_rfl : _ = vals 20).trans h20) (fun ρ rc rf q69 => ?_)
      clear h20
      refine makes_value (v := Value.int .i64 (nb : Int)) ?_ ⟨Adds.refl _, rfl⟩
      go_simp
      all_goals first | done | rfl | (rw [if_pos (by omega)]; refine congrArg (fun x => Result.ok (Next.value (Value.pointer (some ⟨_, x, none⟩))) _) ?_; omega) | (rw [wrapP_i64]; omega) | go_num | (simp; done) | (simp; omega) | (congr 1; first | rfl | (rw [wrapP_i64]; omega) | (congr 1; first | rfl | (simp; done) | (simp; omega) | (congr 2; omega) | go_num))
    · refine showA_run 22 (by intro _ _ _; kernel_rfl) (j := 18) (want := true) rfl rfl rfl (by intro _ _; kernel_rfl) rfl (fun c vals w hC hD => ⟨hD 18 rfl, ?_⟩)
      have h21 : vals 21 = .int .i64 (nb : Int) := hD 21 rfl
      clear hD
      refine makes1 (x := .tmp 70) (X := Value.int .i64 (nb : Int)) ((by kernel_rfl : _ = vals 21).trans h21) (fun ρ rc rf q70 => ?_)
      clear h21
      (refine makes_value (v := .int .i64 (mb : Int)) ?_ ⟨Adds.refl _, rfl⟩; go_simp; rw [wrapP_i64]; omega)
    · refine showA_run 23 (by intro _ _ _; kernel_rfl) (j := 18) (want := true) rfl rfl rfl (by intro _ _; kernel_rfl) rfl (fun c vals w hC hD => ⟨hD 18 rfl, ?_⟩)
      have h19 : vals 19 = .slice ao nb cap0 := hD 19 rfl
      have h22 : vals 22 = .int .i64 (mb : Int) := hD 22 rfl
      clear hD
      refine makes2 (x := .tmp 68) (X := Value.slice ao nb cap0) (y := .tmp 71) (Y := Value.int .i64 (mb : Int)) ((by kernel_rfl : _ = vals 19).trans h19) ((by kernel_rfl : _ = vals 22).trans h22) (fun ρ rc rf q68 q71 => ?_)
      clear h19 h22
      exact makes_slice hST rfl q68 (congrArg some q71) rfl rfl ⟨Adds.refl _, rfl⟩
    · refine showA_run 24 (by intro _ _ _; kernel_rfl) (j := 18) (want := true) rfl rfl rfl (by intro _ _; kernel_rfl) rfl (fun c vals w hC hD => ⟨hD 18 rfl, ?_⟩)
      have h23 : vals 23 = .slice aoT 32 (cap0 - mb) := hD 23 rfl
      clear hD
      refine makes1 (x := .tmp 72) (X := Value.slice aoT 32 (cap0 - mb)) ((by kernel_rfl : _ = vals 23).trans h23) (fun ρ rc rf q72 => ?_)
      clear h23
      (have hs' := str_of (hBT.adds hC); refine makes_value (v := .string ⟨xi.tag.toArray⟩) ?_ ⟨Adds.refl _, rfl⟩; go_simp)
    · refine showA_run 25 (by intro _ _ _; kernel_rfl) (j := 18) (want := true) rfl rfl rfl (by intro _ _; kernel_rfl) rfl (fun c vals w hC hD => ⟨hD 18 rfl, ?_⟩)
      clear hD
      refine makes1 (x := .tmp 5) (X := Value.pointer (some ⟨g5, 0, none⟩)) (by kernel_rfl : _ = (Value.pointer (some ⟨g5, 0, none⟩) : Value)) (fun ρ rc rf q5 => ?_)
      (refine makes_value (v := .pointer (some ⟨g5, 4, none⟩)) ?_ ⟨Adds.refl _, rfl⟩; go_simp)
    · refine showA_run 26 (by intro _ _ _; kernel_rfl) (j := 18) (want := true) rfl rfl rfl (by intro _ _; kernel_rfl) rfl (fun c vals w hC hD => ⟨hD 18 rfl, ?_⟩)
      have h25 : vals 25 = .pointer (some ⟨g5, 4, none⟩) := hD 25 rfl
      clear hD
      refine makes1 (x := .tmp 74) (X := Value.pointer (some ⟨g5, 4, none⟩)) ((by kernel_rfl : _ = vals 25).trans h25) (fun ρ rc rf q74 => ?_)
      clear h25
      exact makes_slice (slice_arr_all (t := 25) (ua_of rfl) (by exact elOne rfl)) rfl q74 rfl rfl rfl ⟨Adds.refl _, rfl⟩
    · refine showA_run 27 (by intro _ _ _; kernel_rfl) (j := 18) (want := true) rfl rfl rfl (by intro _ _; kernel_rfl) rfl (fun c vals w hC hD => ⟨hD 18 rfl, ?_⟩)
      have h26 : vals 26 = .slice (some ⟨g5, 4, none⟩) 32 32 := hD 26 rfl
      clear hD
      refine makes1 (x := .tmp 75) (X := Value.slice (some ⟨g5, 4, none⟩) 32 32) ((by kernel_rfl : _ = vals 26).trans h26) (fun ρ rc rf q75 => ?_)
      clear h26
      (have hs' := str_of (tag_bytes1 (hM.adds hC) (.head _) hT); refine makes_value (v := .string ⟨xi.tag.toArray⟩) ?_ ⟨Adds.refl _, rfl⟩; go_simp)
    · refine showA_run 28 (by intro _ _ _; kernel_rfl) (j := 18) (want := true) rfl rfl rfl (by intro _ _; kernel_rfl) rfl (fun c vals w hC hD => ⟨hD 18 rfl, ?_⟩)
      have h24 : vals 24 = .string ⟨xi.tag.toArray⟩ := hD 24 rfl
      have h27 : vals 27 = .string ⟨xi.tag.toArray⟩ := hD 27 rfl
      clear hD
      refine makes2 (x := .tmp 73) (X := Value.string ⟨xi.tag.toArray⟩) (y := .tmp 76) (Y := Value.string ⟨xi.tag.toArray⟩) ((by kernel_rfl : _ = vals 24).trans h24) ((by kernel_rfl : _ = vals 27).trans h27) (fun ρ rc rf q73 q76 => ?_)
      clear h24 h27
      (refine makes_value (v := .bool true) ?_ ⟨Adds.refl _, rfl⟩; go_simp)
    · refine showA_op 29 (by intro _ _ _; kernel_rfl) rfl rfl (fun c vals w hC hD => ?_)
      have h18 : vals 18 = .bool true := hD 18 rfl
      have h28 : vals 28 = .bool true := hD 28 rfl
      clear hD
      refine makes2 (x := .tmp 67) (X := Value.bool true) (y := .tmp 77) (Y := Value.bool true) ((by kernel_rfl : _ = vals 18).trans h18) ((by kernel_rfl : _ = vals 28).trans h28) (fun ρ rc rf q67 q77 => ?_)
      clear h18 h28
      refine makes_value (v := Value.bool true) ?_ ⟨Adds.refl _, rfl⟩
      go_simp
      all_goals first | done | rfl | (rw [if_pos (by omega)]; refine congrArg (fun x => Result.ok (Next.value (Value.pointer (some ⟨_, x, none⟩))) _) ?_; omega) | (rw [wrapP_i64]; omega) | go_num | (simp; done) | (simp; omega) | (congr 1; first | rfl | (rw [wrapP_i64]; omega) | (congr 1; first | rfl | (simp; done) | (simp; omega) | (congr 2; omega) | go_num))
    · refine showA_op 30 (by intro _ _ _; kernel_rfl) rfl rfl (fun c vals w hC hD => ?_)
      have h29 : vals 29 = .bool true := hD 29 rfl
      clear hD
      refine makes1 (x := .tmp 78) (X := Value.bool true) ((by kernel_rfl : _ = vals 29).trans h29) (fun ρ rc rf q78 => ?_)
      clear h29
      exact makes_move (.inr rfl) q78 ⟨Adds.refl _, rfl⟩
    intro vals w' hC hΦ hne
    have h30 : vals 30 = .bool true := hΦ 30 (by decide)
    clear hΦ hne
    simp only [List.getD_eq_getElem?_getD, List.getElem?_cons_zero, List.getElem?_cons_succ, Option.getD_some, List.drop_succ_cons, List.drop_zero]
    simp only [h30]
    clear h30
    try simp only [tuple_undef]
    replace hM0 := hM0.adds hC
    clear hC
    go_wp2_with fail
    go_ret
    exact ⟨rfl, hM0.done⟩
  · obtain ⟨av, rfl⟩ := hbad hok
    have hwr := Img.wrong_at (b := B) (by rw [hx]; exact hok)
    rw [hx] at hwr
    obtain ⟨hx0, hat, -⟩ := hwr
    replace hx0 : xi = Img.im0 := hx0
    subst hx0
    replace hat : ek ≤ nb := by rw [← hnb]; exact hat
    have hki : (0 : Int) ≤ (ek : Int) := by omega
    have hkn : (ek : Int) ≤ (nb : Int) := by omega
    clear hnil hbad hx hok
    go_simp
    go_wp2_with fail
    refine (htold _ hM3.done (hg.mem hM0)).mono ?_
    rintro _ w5 ⟨rfl, B1⟩
    replace hM := hM.adds B1
    replace hM0 := hM0.adds B1
    replace hp := hp.adds B1
    clear B1 htold hM3
    go_wp2_with (first
      | ((with_reducible refine gL_alloc (dst := some 7) hM ?_); refine ⟨wrongC 0 0, _, (zr_of rfl), ?_⟩; intro g7 _ hM2; clear hM; have hM := hM2; clear hM2)
      | ((with_reducible refine gL_store (x := .tmp 7) hM ?_); refine ⟨_, _, _, rfl, rfl, hM.stores_all (C1 := wrongC ec ek) (.here _ _ _) (ag_of rfl) rfl rfl (one_of_all rfl), ?_⟩; intro wB hM2; clear hM; have hM := hM2; clear hM2)
      | ((with_reducible refine gG_load (dst := some 39) ?_ ?_); (exact wanted_of rfl rfl rfl rfl rfl); refine ⟨_, _, rfl, hM.loads_all (.tail _ (.head _)) (ag_of rfl) hCl, ?_⟩)
      | go_skip | ((first | (with_reducible refine gL_load ?_) | ((with_reducible refine gG_load ?_ ?_); (exact wanted_of rfl rfl rfl rfl rfl))); refine ⟨_, _, rfl, (by (first | (assumption) | (exact hM.loads_B8 (by (repeat (first | exact .head _ | apply List.Mem.tail)); done) (on_of rfl) (by first | omega | (simp only [Len] at *; omega) | (simp; omega))) | (exact hM.loads_all (by (repeat (first | exact .head _ | apply List.Mem.tail)); done) (ag_of rfl) (by first | assumption | exact Len.map (by assumption) _ | rfl | exact Len.map (by rfl) _ | exact Len.of (by simp; done))) | (exact hM.loads_one (by (repeat (first | exact .head _ | apply List.Mem.tail)); done) (on_of rfl) rfl) | (exact hM.loads_W32 (by (repeat (first | exact .head _ | apply List.Mem.tail)); done) (on_of rfl) (by first | omega | (simp only [Len] at *; omega) | (simp; omega))) | (exact loads_cell (by assumption) (on_of rfl)))), ?_⟩) | ((with_reducible refine gL_store hM ?_); refine ⟨_, _, _, rfl, rfl, (by (first | (exact hM.stores_B8 (by first | exact (rfl : B8 _ = B8 _) | exact lit8 _ (by decide)) (by (repeat (first | exact .here _ _ _ | apply Has.there)); done) (on_of rfl) (by first | omega | (simp only [Len] at *; omega) | (simp; omega))) | (exact hM.stores_all (by (repeat (first | exact .here _ _ _ | apply Has.there)); done) (ag_of rfl) (by first | assumption | exact Len.map (by assumption) _ | rfl | exact Len.map (by rfl) _ | exact Len.of (by simp; done)) (by first | assumption | exact Len.map (by assumption) _ | rfl | exact Len.map (by rfl) _ | exact Len.of (by simp; done)) (by first | exact B8_one | exact W32_one | exact one_of_all rfl)) | (exact hM.stores_W32 rfl (by (repeat (first | exact .here _ _ _ | apply Has.there)); done) (on_of rfl) (by first | omega | (simp only [Len] at *; omega) | (simp; omega))) | (exact hM.stores_one (by (repeat (first | exact .here _ _ _ | apply Has.there)); done) (on_of rfl) (by first | omega | (simp only [Len] at *; omega) | (simp; omega)) rfl rfl))), ?_⟩; intro _ hM2; clear hM; have hM := hM2; clear hM2) | ((with_reducible refine gL_alloc hM ?_); refine ⟨_, _, (zr_of rfl), ?_⟩; intro _ _ hM2; clear hM; have hM := hM2; clear hM2) | ((with_reducible refine gL_box hM ?_); refine ⟨_, _, _, rfl, rfl, (by first | assumption | exact Len.map (by assumption) _ | rfl | exact Len.map (by rfl) _ | exact Len.of (by simp; done)), ?_⟩; intro _ _ hM2; clear hM; have hM := hM2; clear hM2) | ((with_reducible refine gL_build0 ?_); refine ⟨_, _, _, _, _, _, (zr_of rfl), (ua_of rfl), (ag_of rfl), (el_of rfl), ?_⟩) | ((with_reducible refine gL_buildBytes hM ?_); refine ⟨_, _, (us_of rfl), (el_of rfl), (by decide), (by decide), rfl, (by (repeat (first | exact EvB.nil | apply EvB.cons rfl (by first | exact (rfl : B8 _ = B8 _) | exact lit8 _ (by decide)))); done), ?_⟩; intro _ _ hM2; clear hM; have hM := hM2; clear hM2) | ((with_reducible refine gL_append_B hM ?_); refine ⟨_, _, _, _, _, _, _, _, _, _, rfl, rfl, (by first | exact (rfl : Value.slice (some ⟨_, 0, none⟩) _ _ = sl (some _) _ _) | exact (rfl : Value.slice none _ _ = sl none _ _) | rfl), (us_of rfl), (el_of rfl), (by first | exact hM.src (by (repeat (first | exact .head _ | apply List.Mem.tail)); done) | exact (hM.bytes0 (by assumption)).src), (fun _ _ => by (repeat (first | exact .here _ _ _ | apply Swap.there)); done), (by first | assumption | exact Len.map (by assumption) _ | rfl | exact Len.map (by rfl) _ | exact Len.of (by simp; done)), (by first | assumption | exact Len.map (by assumption) _ | rfl | exact Len.map (by rfl) _ | exact Len.of (by simp; done)), (by first | assumption | (simp [maxLen]; done) | omega | (simp [maxLen]; omega)), (by first | omega | (simp only [Len] at *; omega) | (simp; omega)), ?_⟩; intro _ _ _ hM2 _ _; clear hM; have hM := hM2; clear hM2) | ((first | (with_reducible refine gL_field ?_) | ((with_reducible refine gG_field ?_ ?_); (exact wanted_of rfl rfl rfl rfl rfl))); refine ⟨_, _, rfl, (by (first | (exact field_one (fb_of rfl) rfl) | (exact field_agg (fa_of rfl) rfl))), ?_⟩))
    refine (ref11_Same wB Img.im0 p (.slice none 0 0) (hM.bytes0 hp3) (Bytes.nil _) (Len.rep 32 0)).mono ?_
    rintro _ w6 ⟨rfl, B1⟩
    have hE := (hM00.adds hM.done).adds B1
    clear B1
    go_wp2_with fail
    go_ret
    exact ⟨rfl, hE.done⟩
end Go.Proofs.YtejmbkljnhnklaaDoor
