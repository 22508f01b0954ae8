/-
  The walk of ImageReturns.
-/
import Derived.Test.YtejmbkljnhnklaaDoorImgY
namespace Go.Proofs.YtejmbkljnhnklaaDoor
open Go.RowKit Go.PK
theorem body_sl (w0 : World) (v : Value) (b : List UInt8) (hv : Bytes w0 v b) (hbl : b.length ≤ 140737488351232) :
    Calls Tryd.prog 17 #[v] w0 fun e w' => ∃ ao m cap, e = .returned (.slice ao m cap) ∧ Len (Img.body b) m ∧ Bytes w' (.slice ao m cap) (Img.body b) ∧ Below w0.heap.size w0 w' := by
  refine (image_Body w0 v b hv hbl).mono ?_
  rintro e w' ⟨ob, m, cap, rfl, hm, hc, hM⟩
  exact ⟨_, m, cap, rfl, hm, hM.whole (.head _) hm (by simpa [maxLen] using hc), hM.done⟩
theorem tag_bytes {G : List Nat} {w0 w : World} {L : List Blk} (hM : Mem G w0 w L) {g : Nat} {t : TypeId} {x : Img.Im} {p : Value} (h : ⟨some g, t, imC x p, 36⟩ ∈ L) (hT : Len x.tag 32) : Bytes w (.slice (some ⟨g, 4, none⟩) 32 32) x.tag := by
  refine ⟨some ⟨g, 4, none⟩, 32, by rw [hT.eq], by rw [hT.eq]; exact Nat.le_refl _, by decide, nofun, fun j hj => ⟨g, 4, rfl, (hM.holds _ h).lt rfl, hM.cell h ?_⟩⟩
  unfold imC
  rw [List.getElem?_append_right (by simp), show 4 + j - ([.int .i64 x.slot, .int .i64 x.key, .int .i64 x.ver, p] : List Value).length = j from by simp, List.getElem?_map, List.getElem?_eq_getElem hj, List.getD_eq_getElem?_getD, List.getElem?_eq_getElem hj]
  rfl
theorem may_ways (x : Img.Im) : Img.may x = 0 ∨ Img.may x = 2 ∨ Img.may x = 4 := by
  unfold Img.may
  split
  · exact .inr (.inl rfl)
  · split
    · exact .inr (.inr rfl)
    · exact .inl rfl

set_option maxRecDepth 100000 in
set_option maxHeartbeats 4000000 in
theorem ImageReturns_walk (w0 : World) (hg : TypeLaid w0) (v : Value) (s : List UInt8) (hs : Bytes w0 v s) (hsl : s.length ≤ 140737488351232) (cs : List Value) (y : Int × Int × Int × List UInt8 × List UInt8) (hK : rImg.K w0 cs y) (_ho : rImg.ok y) :
    Calls Tryd.prog 6 #[v, .agg cs.toArray] w0 fun e w' => e = .returned (.bool true) ∧ Below w0.heap.size w0 w' := by
  obtain ⟨xi, p0, rfl, -, hp0, hT0⟩ := img_cells hK
  clear hK _ho
  have hM := Mem.start w0
  have hC := imC_len hT0 p0
  have hz := im0_zero
  have hzC := imC_len (x := Img.im0) (Len.rep 32 0) (.slice none 0 0)
  have h1 : ∀ w, Adds w0 w → _ := fun w hb => make_sum w v s (hs.adds hb) hsl xi p0 (hp0.adds hb) hT0
  obtain ⟨kk, hkk⟩ : ∃ kk, Img.may xi = kk := ⟨_, rfl⟩
  have hkw : kk = 0 ∨ kk = 2 ∨ kk = 4 := hkk ▸ may_ways xi
  by_cases hk0 : kk = 0
  · subst hk0
    obtain ⟨T, hTT⟩ : ∃ T, Mac.tag s (Img.cover xi) = T := ⟨_, rfl⟩
    have hT2 : Len T 32 := by rw [← hTT]; exact Len.of (Mac.tag_len _ _)
    obtain ⟨n, hn⟩ : ∃ n, xi.pay.length = n := ⟨_, rfl⟩
    have hnl : n ≤ 524240 := by rw [← hn]; exact (may_zero hkk).2
    have hpm : Img.parse (Img.cover xi ++ T) = (⟨xi.slot, xi.key, xi.ver, xi.pay, T⟩, (0, 0)) := Img.parse_made hkk hT2.eq
    rw [make_yes hkk hTT] at h1
    have hcl : Len (Img.cover xi) (16 + n) := Len.of (by rw [Img.cover_len, hn])
    have hRl : Len (Img.cover xi ++ T) (n + 48) := Len.of (by rw [List.length_append, hcl.eq, hT2.eq]; omega)
    have hbd : Img.body (Img.cover xi ++ T) = Img.cover xi := by rw [body_long hRl (by omega), show n + 48 - 32 = 16 + n from by omega]; exact List.take_left' hcl.eq
    have hdr : (Img.cover xi ++ T).drop (16 + n) = T := List.drop_left' hcl.eq
    have hof1 : ∀ w' v2, Adds w0 w' → Bytes w' v2 (Img.cover xi) → Calls Tryd.prog 19 #[v, v2] w' fun e w'' => e = .returned (.agg (T.map B8).toArray) ∧ Below w'.heap.size w' w'' := fun w' v2 hb h2 => hTT ▸ mac_Of w' v v2 s (Img.cover xi) (hs.adds hb) h2 (by omega) (by rw [hcl.eq]; omega)
    have hof2 : ∀ w' v2, Adds w0 w' → Bytes w' v2 (Img.cover xi) → _ := fun w' v2 hb h2 => ref03_Of w' v v2 s (Img.cover xi) (hs.adds hb) h2 (by omega) (by rw [hcl.eq]; omega) T hTT
    obtain ⟨m, hm⟩ : ∃ m, m = n + 48 := ⟨_, rfl⟩
    obtain ⟨mb, hmb⟩ : ∃ mb, mb = 16 + n := ⟨_, rfl⟩
    rw [← hm] at hRl
    rw [← hmb] at hcl hdr
    have he1 : (n : Int) + 48 = (m : Int) := by omega
    have he2 : (m : Int) - 32 = (mb : Int) := by omega
    have hmm : m - mb = 32 := by omega
    have hml : mb ≤ m := by omega
    have hmax : m ≤ 524288 := by omega
    obtain ⟨B, hB⟩ : ∃ B, B = Img.cover xi ++ T := ⟨_, rfl⟩
    rw [← hB] at h1 hpm hRl hbd hdr
    generalize Img.cover xi = R at *
    clear hTT hkk hB hkw hm hmb
    obtain ⟨a0, c0, rfl, -⟩ := id hp0
    rw [hn] at hp0 hC h1 ⊢
    obtain ⟨xs, xk, xv, PB, xt⟩ := xi
    dsimp only at hp0 hT0 hpm hC h1 hn ⊢
    go_enter Tryd.func6, Tryd.ntmps6
    go_wp2_with (first
      | ((with_reducible refine gL_box hM ?_); refine ⟨_, _, _, rfl, rfl, hC, ?_⟩; intro g3 _ hM2; clear hM; have hM := hM2; clear hM2))
    refine (law11_awake _ (hg.mem hM)).mono ?_
    rintro _ w1 ⟨rfl, B1⟩
    replace hM := hM.adds B1
    clear B1
    go_wp2_with (first
      | ((with_reducible refine gL_load (dst := some 14) ?_); refine ⟨_, _, rfl, hM.loads_all (.head _) (ag_of rfl) hC, ?_⟩))
    refine (h1 _ hM.done).mono ?_
    rintro _ w2 ⟨ao, m', cap, rfl, hm1, hb, B1⟩
    obtain rfl : m = m' := hRl.eq.symm.trans hm1.eq
    replace hM := hM.adds B1
    clear B1 h1 hm1
    go_wp2_with fail
    refine (parse_sum _ _ B hb (by rw [hRl.eq]; omega)).mono ?_
    rintro _ w3 ⟨x2, ec, ek, p, ev, hx, hT, rfl, hp1, hp, hnil, -, -, B1⟩
    have hxe := hx.symm.trans hpm
    obtain rfl : x2 = ⟨xs, xk, xv, PB, T⟩ := congrArg Prod.fst hxe
    obtain rfl := hnil (congrArg Prod.snd hxe)
    clear hx hxe hnil hpm hT
    replace hM := hM.adds B1
    replace hb := hb.adds B1
    clear B1
    have hM0 := hM.forget
    have hR3 := hM.rowN (.head _) hC
    replace hp0 := hM.bytes0 hp0
    clear hM
    have hM := Mem.start w3
    have hCl := imC_len (x := ⟨xs, xk, xv, PB, T⟩) hT2 p
    have hCo := im_one ⟨xs, xk, xv, PB, T⟩ p hp1
    go_wp2_with (first
      | ((with_reducible refine gL_alloc (dst := some 7) hM ?_); refine ⟨_, _, hz, ?_⟩; intro g7 _ hM2; clear hM; have hM := hM2; clear hM2)
      | ((with_reducible refine gL_store (x := .tmp 7) hM ?_); refine ⟨_, _, _, rfl, rfl, hM.stores_all (.here _ _ _) (ag_of rfl) hCl hzC hCo, ?_⟩; intro wA hM2; clear hM; have hM := hM2; clear hM2; replace hR3 := hM.row hR3 (by simp); have k0 : wA.cell? ⟨g3, 0, none⟩ = some (.int .i64 xs) := (by rw [cell_row hR3]; rfl); have k1 : wA.cell? ⟨g3, 1, none⟩ = some (.int .i64 xk) := (by rw [cell_row hR3]; rfl); have k2 : wA.cell? ⟨g3, 2, none⟩ = some (.int .i64 xv) := (by rw [cell_row hR3]; rfl); have k3 : wA.cell? ⟨g3, 3, none⟩ = some (.slice a0 n c0) := (by rw [cell_row hR3]; rfl); have s1 := str_of (hM.bytes0 hp); have s2 := str_of (hM.bytes0 hp0))
      | go_skip | ((first | (with_reducible refine gL_load ?_) | ((with_reducible refine gG_load ?_ ?_); (exact wanted_of rfl rfl rfl rfl rfl))); refine ⟨_, _, rfl, (by (first | (assumption) | (exact hM.loads_B8 (by (repeat (first | exact .head _ | apply List.Mem.tail)); done) (on_of rfl) (by first | omega | (simp only [Len] at *; omega) | (simp; omega))) | (exact hM.loads_all (by (repeat (first | exact .head _ | apply List.Mem.tail)); done) (ag_of rfl) (by first | assumption | exact Len.map (by assumption) _ | rfl | exact Len.map (by rfl) _ | exact Len.of (by simp; done))) | (exact hM.loads_one (by (repeat (first | exact .head _ | apply List.Mem.tail)); done) (on_of rfl) rfl) | (exact hM.loads_W32 (by (repeat (first | exact .head _ | apply List.Mem.tail)); done) (on_of rfl) (by first | omega | (simp only [Len] at *; omega) | (simp; omega))) | (exact loads_cell (by assumption) (on_of rfl)))), ?_⟩) | ((with_reducible refine gL_store hM ?_); refine ⟨_, _, _, rfl, rfl, (by (first | (exact hM.stores_B8 (by first | exact (rfl : B8 _ = B8 _) | exact lit8 _ (by decide)) (by (repeat (first | exact .here _ _ _ | apply Has.there)); done) (on_of rfl) (by first | omega | (simp only [Len] at *; omega) | (simp; omega))) | (exact hM.stores_all (by (repeat (first | exact .here _ _ _ | apply Has.there)); done) (ag_of rfl) (by first | assumption | exact Len.map (by assumption) _ | rfl | exact Len.map (by rfl) _ | exact Len.of (by simp; done)) (by first | assumption | exact Len.map (by assumption) _ | rfl | exact Len.map (by rfl) _ | exact Len.of (by simp; done)) (by first | exact B8_one | exact W32_one | exact one_of_all rfl)) | (exact hM.stores_W32 rfl (by (repeat (first | exact .here _ _ _ | apply Has.there)); done) (on_of rfl) (by first | omega | (simp only [Len] at *; omega) | (simp; omega))) | (exact hM.stores_one (by (repeat (first | exact .here _ _ _ | apply Has.there)); done) (on_of rfl) (by first | omega | (simp only [Len] at *; omega) | (simp; omega)) rfl rfl))), ?_⟩; intro _ hM2; clear hM; have hM := hM2; clear hM2) | ((with_reducible refine gL_alloc hM ?_); refine ⟨_, _, (zr_of rfl), ?_⟩; intro _ _ hM2; clear hM; have hM := hM2; clear hM2) | ((with_reducible refine gL_box hM ?_); refine ⟨_, _, _, rfl, rfl, (by first | assumption | exact Len.map (by assumption) _ | rfl | exact Len.map (by rfl) _ | exact Len.of (by simp; done)), ?_⟩; intro _ _ hM2; clear hM; have hM := hM2; clear hM2) | ((with_reducible refine gL_build0 ?_); refine ⟨_, _, _, _, _, _, (zr_of rfl), (ua_of rfl), (ag_of rfl), (el_of rfl), ?_⟩) | ((with_reducible refine gL_buildBytes hM ?_); refine ⟨_, _, (us_of rfl), (el_of rfl), (by decide), (by decide), rfl, (by (repeat (first | exact EvB.nil | apply EvB.cons rfl (by first | exact (rfl : B8 _ = B8 _) | exact lit8 _ (by decide)))); done), ?_⟩; intro _ _ hM2; clear hM; have hM := hM2; clear hM2) | ((with_reducible refine gL_append_B hM ?_); refine ⟨_, _, _, _, _, _, _, _, _, _, rfl, rfl, (by first | exact (rfl : Value.slice (some ⟨_, 0, none⟩) _ _ = sl (some _) _ _) | exact (rfl : Value.slice none _ _ = sl none _ _) | rfl), (us_of rfl), (el_of rfl), (by first | exact hM.src (by (repeat (first | exact .head _ | apply List.Mem.tail)); done) | exact (hM.bytes0 (by assumption)).src), (fun _ _ => by (repeat (first | exact .here _ _ _ | apply Swap.there)); done), (by first | assumption | exact Len.map (by assumption) _ | rfl | exact Len.map (by rfl) _ | exact Len.of (by simp; done)), (by first | assumption | exact Len.map (by assumption) _ | rfl | exact Len.map (by rfl) _ | exact Len.of (by simp; done)), (by first | assumption | (simp [maxLen]; done) | omega | (simp [maxLen]; omega)), (by first | omega | (simp only [Len] at *; omega) | (simp; omega)), ?_⟩; intro _ _ _ hM2 _ _; clear hM; have hM := hM2; clear hM2) | ((first | (with_reducible refine gL_field ?_) | ((with_reducible refine gG_field ?_ ?_); (exact wanted_of rfl rfl rfl rfl rfl))); refine ⟨_, _, rfl, (by (first | (exact field_one (fb_of rfl) rfl) | (exact field_agg (fa_of rfl) rfl))), ?_⟩))
    clear s1 s2 k0 k1 k2 hp0 hp
    replace hM0 := hM0.adds hM.done
    replace hb := hM.bytes0 hb
    refine (body_sl _ _ B hb (by rw [hRl.eq]; omega)).mono ?_
    rintro _ w5 ⟨ab, mb', cb, rfl, hmb1, hbb, B1⟩
    rw [hbd] at hmb1 hbb
    obtain rfl : mb = mb' := hcl.eq.symm.trans hmb1.eq
    replace hM := hM.adds B1
    replace hM0 := hM0.adds B1
    replace hb := hb.adds B1
    have k4 : ∀ w', Adds w5 w' → w'.cell? ⟨g3, 3, none⟩ = some (.slice a0 n c0) := fun w' hb' => by
      have h := ((Mem.start w5).adds hb').row (((Mem.start wA).adds B1).row hR3 (by simp)) (by simp)
      rw [cell_row h]
      rfl
    clear B1 hmb1 k3 hR3
    have hl4 : ∀ w', Adds w5 w' → Loads Tryd.prog w' 25 ⟨g7, 4, none⟩ (.agg (T.map B8).toArray) := fun w' hb' => (hM.adds hb').loads_last (A := [.int .i64 xs, .int .i64 xk, .int .i64 xv, p]) (.head _) (ag_of rfl) rfl (hT2.map B8)
    obtain ⟨aoT, hST, hBT, -⟩ := bytes_from (P := Tryd.prog) hb (t := 23) (us_of rfl) (by exact elOne rfl) (k := mb) (by omega)
    rw [hmm, hdr] at hBT
    rw [hmm] at hST
    go_wp2_with fail
    try simp only [Act.put, List.setIfInBounds_toArray, List.set_cons_succ, List.set_cons_zero]
    refine wp_region_tail 44 (by decide) (fun c vals => ⟨#[(v : Value), c 1, c 2, (Value.pointer (some ⟨g3, 0, none⟩) : Value), vals 43, (Value.slice ao m cap : Value), c 6, (Value.pointer (some ⟨g7, 0, none⟩) : Value), c 8, (Value.slice ab mb cb : Value), c 10, c 11, c 12, c 13, c 14, c 15, c 16, c 17, c 18, c 19, c 20, c 21, c 22, c 23, c 24, c 25, c 26, c 27, c 28, c 29, c 30, c 31, c 32, c 33, c 34, c 35, c 36, c 37, c 38, c 39, c 40, c 41, c 42, c 43, c 44, c 45, c 46, c 47, c 48, c 49, c 50, c 51, c 52, c 53, c 54, c 55, c 56, c 57, c 58, c 59, c 60, c 61, c 62, c 63, c 64, c 65, c 66, c 67, c 68, c 69, vals 0, vals 1, vals 2, vals 3, vals 4, vals 5, vals 6, vals 7, vals 8, vals 9, vals 10, vals 11, vals 12, vals 13, vals 14, vals 15, vals 16, vals 17, vals 18, vals 19, vals 20, vals 21, vals 22, vals 23, vals 24, vals 25, vals 26, vals 27, vals 28, vals 29, vals 30, vals 31, vals 32, vals 33, vals 34, vals 35, vals 36, vals 37, vals 38, vals 39, vals 40, vals 41, vals 42], []⟩) (fun t => [undef, _, _, undef, undef, undef, _, undef, _, undef, _, _, _, _, _, _, _, _, _, _, _, _, _, _, _, _, _, _, _, _, _, _, _, _, _, _, _, _, _, _, _, _, _, _, _, _, _, _, _, _, _, _, _, _, _, _, _, _, _, _, _, _, _, _, _, _, _, _, _, _, undef, undef, undef, undef, undef, undef, undef, undef, undef, undef, undef, undef, undef, undef, undef, undef, undef, undef, undef, undef, undef, undef, undef, undef, undef, undef, undef, undef, undef, undef, undef, undef, undef, undef, undef, undef, undef, undef, undef, undef, undef, undef, undef].getD t undef) (fun i => [_, _, _, _, _, _, _, _, _, _, _, _, _, _, _, _, _, _, _, _, _, _, _, _, _, _, _, _, _, _, _, _, _, _, _, _, _, _, _, _, _, _, _, _].getD i undef) (by kernel_rfl)
      [[], [0], [], [], [2, 3], [0, 1, 2, 3, 4], [0, 1, 2, 3, 4, 5], [0, 1, 2, 3, 4, 5, 6], [0, 1, 2, 3, 4, 5, 6, 7], [0, 1, 2, 3, 4, 5, 6], [0, 1, 2, 3, 4, 5, 6], [0, 1, 2, 3, 4, 5, 6, 9, 10], [0, 1, 2, 3, 4, 5, 6, 7, 8, 9, 10, 11], [0, 1, 2, 3, 4, 5, 6, 7, 8, 9, 10, 11, 12], [0, 1, 2, 3, 4, 5, 6, 7, 8, 9, 10, 11, 12, 13], [0, 1, 2, 3, 4, 5, 6, 7, 8, 9, 10, 11, 12, 13, 14], [0, 1, 2, 3, 4, 5, 6, 7, 8, 9, 10, 11, 12, 13, 14, 15], [0, 1, 2, 3, 4, 5, 6, 7, 8, 9, 10, 11, 12, 13, 14], [0, 1, 2, 3, 4, 5, 6, 7, 8, 9, 10, 11, 12, 13, 14, 17], [0, 1, 2, 3, 4, 5, 6, 7, 8, 9, 10, 11, 12, 13, 14, 17, 18], [0, 1, 2, 3, 4, 5, 6, 7, 8, 9, 10, 11, 12, 13, 14, 17, 18, 19], [0, 1, 2, 3, 4, 5, 6, 7, 8, 9, 10, 11, 12, 13, 14, 15, 16, 17, 18, 19, 20], [0, 1, 2, 3, 4, 5, 6, 7, 8, 9, 10, 11, 12, 13, 14, 15, 16, 17, 18, 19, 20, 21], [0, 1, 2, 3, 4, 5, 6, 7, 8, 9, 10, 11, 12, 13, 14, 15, 16, 17, 18, 19, 20, 21, 22], [0, 1, 2, 3, 4, 5, 6, 7, 8, 9, 10, 11, 12, 13, 14, 15, 16, 17, 18, 19, 20, 21, 22, 23], [0, 1, 2, 3, 4, 5, 6, 7, 8, 9, 10, 11, 12, 13, 14, 15, 16, 17, 18, 19, 20, 21, 22, 23, 24], [0, 1, 2, 3, 4, 5, 6, 7, 8, 9, 10, 11, 12, 13, 14, 15, 16, 17, 18, 19, 20, 21, 22, 23], [0, 1, 2, 3, 4, 5, 6, 7, 8, 9, 10, 11, 12, 13, 14, 15, 16, 17, 18, 19, 20, 21, 22, 23, 26], [0, 1, 2, 3, 4, 5, 6, 7, 8, 9, 10, 11, 12, 13, 14, 15, 16, 17, 18, 19, 20, 21, 22, 23, 26, 27], [0, 1, 2, 3, 4, 5, 6, 7, 8, 9, 10, 11, 12, 13, 14, 15, 16, 17, 18, 19, 20, 21, 22, 23, 24, 25, 26, 27, 28], [0, 1, 2, 3, 4, 5, 6, 7, 8, 9, 10, 11, 12, 13, 14, 15, 16, 17, 18, 19, 20, 21, 22, 23, 24, 25, 26, 27, 28, 29], [0, 1, 2, 3, 4, 5, 6, 7, 8, 9, 10, 11, 12, 13, 14, 15, 16, 17, 18, 19, 20, 21, 22, 23, 24, 25, 26, 27, 28, 29, 30], [0, 1, 2, 3, 4, 5, 6, 7, 8, 9, 10, 11, 12, 13, 14, 15, 16, 17, 18, 19, 20, 21, 22, 23, 24, 25, 26, 27, 28, 29, 30, 31], [0, 1, 2, 3, 4, 5, 6, 7, 8, 9, 10, 11, 12, 13, 14, 15, 16, 17, 18, 19, 20, 21, 22, 23, 24, 25, 26, 27, 28, 29, 30, 31], [0, 1, 2, 3, 4, 5, 6, 7, 8, 9, 10, 11, 12, 13, 14, 15, 16, 17, 18, 19, 20, 21, 22, 23, 24, 25, 26, 27, 28, 29, 30, 31, 33], [0, 1, 2, 3, 4, 5, 6, 7, 8, 9, 10, 11, 12, 13, 14, 15, 16, 17, 18, 19, 20, 21, 22, 23, 24, 25, 26, 27, 28, 29, 30, 31, 33, 34], [0, 1, 2, 3, 4, 5, 6, 7, 8, 9, 10, 11, 12, 13, 14, 15, 16, 17, 18, 19, 20, 21, 22, 23, 24, 25, 26, 27, 28, 29, 30, 31, 32, 33, 34, 35], [0, 1, 2, 3, 4, 5, 6, 7, 8, 9, 10, 11, 12, 13, 14, 15, 16, 17, 18, 19, 20, 21, 22, 23, 24, 25, 26, 27, 28, 29, 30, 31, 32, 33, 34, 35, 36], [0, 1, 2, 3, 4, 5, 6, 7, 8, 9, 10, 11, 12, 13, 14, 15, 16, 17, 18, 19, 20, 21, 22, 23, 24, 25, 26, 27, 28, 29, 30, 31], [0, 1, 2, 3, 4, 5, 6, 7, 8, 9, 10, 11, 12, 13, 14, 15, 16, 17, 18, 19, 20, 21, 22, 23, 24, 25, 26, 27, 28, 29, 30, 31, 38], [0, 1, 2, 3, 4, 5, 6, 7, 8, 9, 10, 11, 12, 13, 14, 15, 16, 17, 18, 19, 20, 21, 22, 23, 24, 25, 26, 27, 28, 29, 30, 31, 38, 39], [0, 1, 2, 3, 4, 5, 6, 7, 8, 9, 10, 11, 12, 13, 14, 15, 16, 17, 18, 19, 20, 21, 22, 23, 24, 25, 26, 27, 28, 29, 30, 31, 32, 33, 34, 35, 36, 37, 38, 39, 40], [0, 1, 2, 3, 4, 5, 6, 7, 8, 9, 10, 11, 12, 13, 14, 15, 16, 17, 18, 19, 20, 21, 22, 23, 24, 25, 26, 27, 28, 29, 30, 31, 32, 33, 34, 35, 36, 37, 38, 39, 40, 41], [0, 1, 2, 3, 4, 5, 6, 7, 8, 9, 10, 11, 12, 13, 14, 15, 16, 17, 18, 19, 20, 21, 22, 23, 24, 25, 26, 27, 28, 29, 30, 31, 32, 33, 34, 35, 36, 37, 38, 39, 40, 41, 42]] (by kernel_rfl) (by kernel_rfl) (fun _ => True) trivial
      [fun x _ => x = (Value.pointer (some ⟨g7, 4, none⟩) : Value),
       fun x _ => x = (Value.agg (T.map B8).toArray : Value),
       fun x _ => x = (v : Value),
       fun x _ => x = (Value.slice ab mb cb : Value),
       fun x _ => x = (Value.agg (T.map B8).toArray : Value),
       fun x _ => x = (Value.bool true : Value),
       fun x _ => x = (Value.bool true : Value),
       fun x _ => x = (Value.pointer (some ⟨g7, 4, none⟩) : Value),
       fun x _ => x = (Value.agg (T.map B8).toArray : Value),
       fun x _ => x = (v : Value),
       fun x _ => x = (Value.slice ab mb cb : Value),
       fun x _ => x = (Value.agg (T.map B8).toArray : Value),
       fun x _ => x = (Value.bool true : Value),
       fun x _ => x = (Value.bool true : Value),
       fun x _ => x = (Value.bool true : Value),
       fun x _ => x = (Value.slice ao m cap : Value),
       fun x _ => x = (Value.int .i64 (m : Int) : Value),
       fun x _ => x = (Value.pointer (some ⟨g3, 3, none⟩) : Value),
       fun x _ => x = (Value.slice a0 n c0 : Value),
       fun x _ => x = (Value.int .i64 (n : Int) : Value),
       fun x _ => x = (Value.int .i64 (m : Int) : Value),
       fun x _ => x = (Value.bool true : Value),
       fun x _ => x = (Value.bool true : Value),
       fun x _ => x = (Value.bool true : Value),
       fun x _ => x = (Value.slice ab mb cb : Value),
       fun x _ => x = (Value.int .i64 (mb : Int) : Value),
       fun x _ => x = (Value.slice ao m cap : Value),
       fun x _ => x = (Value.int .i64 (m : Int) : Value),
       fun x _ => x = (Value.int .i64 (mb : Int) : Value),
       fun x _ => x = (Value.bool true : Value),
       fun x _ => x = (Value.bool true : Value),
       fun x _ => x = (Value.bool true : Value),
       fun x _ => x = (Value.slice ao m cap : Value),
       fun x _ => x = (Value.slice ao m cap : Value),
       fun x _ => x = (Value.int .i64 (m : Int) : Value),
       fun x _ => x = (Value.int .i64 (mb : Int) : Value),
       fun x _ => x = (Value.slice aoT 32 (cap - mb) : Value),
       fun x _ => x = (Value.string ⟨T.toArray⟩ : Value),
       fun x _ => x = (Value.pointer (some ⟨g7, 4, none⟩) : Value),
       fun x _ => x = (Value.slice (some ⟨g7, 4, none⟩) 32 32 : Value),
       fun x _ => x = (Value.string ⟨T.toArray⟩ : Value),
       fun x _ => x = (Value.bool true : Value),
       fun x _ => x = (Value.bool true : Value),
       fun x _ => x = (Value.bool true : Value)]
      ⟨fun _ _ _ h _ => h, fun _ _ _ h _ => h, fun _ _ _ h _ => h, fun _ _ _ h _ => h, fun _ _ _ h _ => h, fun _ _ _ h _ => h, fun _ _ _ h _ => h, fun _ _ _ h _ => h, fun _ _ _ h _ => h, fun _ _ _ h _ => h, fun _ _ _ h _ => h, fun _ _ _ h _ => h, fun _ _ _ h _ => h, fun _ _ _ h _ => h, fun _ _ _ h _ => h, fun _ _ _ h _ => h, fun _ _ _ h _ => h, fun _ _ _ h _ => h, fun _ _ _ h _ => h, fun _ _ _ h _ => h, fun _ _ _ h _ => h, fun _ _ _ h _ => h, fun _ _ _ h _ => h, fun _ _ _ h _ => h, fun _ _ _ h _ => h, fun _ _ _ h _ => h, fun _ _ _ h _ => h, fun _ _ _ h _ => h, fun _ _ _ h _ => h, fun _ _ _ h _ => h, fun _ _ _ h _ => h, fun _ _ _ h _ => h, fun _ _ _ h _ => h, fun _ _ _ h _ => h, fun _ _ _ h _ => h, fun _ _ _ h _ => h, fun _ _ _ h _ => h, fun _ _ _ h _ => h, fun _ _ _ h _ => h, fun _ _ _ h _ => h, fun _ _ _ h _ => h, fun _ _ _ h _ => h, fun _ _ _ h _ => h, fun _ _ _ h _ => h, trivial⟩ []
      ⟨?_, ?_, ?_, ?_, ?_, ?_, ?_, ?_, ?_, ?_, ?_, ?_, ?_, ?_, ?_, ?_, ?_, ?_, ?_, ?_, ?_, ?_, ?_, ?_, ?_, ?_, ?_, ?_, ?_, ?_, ?_, ?_, ?_, ?_, ?_, ?_, ?_, ?_, ?_, ?_, ?_, ?_, ?_, ?_, trivial⟩ ?_
    · refine showA_op 0 (by intro _ _ _; kernel_rfl) rfl rfl (fun c vals w hC hD => ?_)
      clear hD
      refine makes1 (x := .tmp 7) (X := Value.pointer (some ⟨g7, 0, none⟩)) (by kernel_rfl : _ = (Value.pointer (some ⟨g7, 0, none⟩) : Value)) (fun ρ rc rf q7 => ?_)
      (refine makes_value (v := .pointer (some ⟨g7, 4, none⟩)) ?_ ⟨Adds.refl _, rfl⟩; go_simp)
    · refine showA_op 1 (by intro _ _ _; kernel_rfl) rfl rfl (fun c vals w hC hD => ?_)
      have h0 : vals 0 = .pointer (some ⟨g7, 4, none⟩) := hD 0 rfl
      clear hD
      refine makes1 (x := .tmp 70) (X := Value.pointer (some ⟨g7, 4, none⟩)) ((by kernel_rfl : _ = vals 0).trans h0) (fun ρ rc rf q70 => ?_)
      clear h0
      exact makes_load (hl4 _ hC) rfl q70 ⟨Adds.refl _, rfl⟩
    · refine showA_op 2 (by intro _ _ _; kernel_rfl) rfl rfl (fun c vals w hC hD => ?_)
      clear hD
      refine makes1 (x := .tmp 0) (X := v) (by kernel_rfl : _ = (v : Value)) (fun ρ rc rf q0 => ?_)
      exact makes_move (.inl rfl) q0 ⟨Adds.refl _, rfl⟩
    · refine showA_op 3 (by intro _ _ _; kernel_rfl) rfl rfl (fun c vals w hC hD => ?_)
      clear hD
      refine makes1 (x := .tmp 9) (X := Value.slice ab mb cb) (by kernel_rfl : _ = (Value.slice ab mb cb : Value)) (fun ρ rc rf q9 => ?_)
      exact makes_move (.inl rfl) q9 ⟨Adds.refl _, rfl⟩
    · refine showA_op 4 (by intro _ _ _; kernel_rfl) rfl rfl (fun c vals w hC hD => ?_)
      have h2 : vals 2 = v := hD 2 rfl
      have h3 : vals 3 = .slice ab mb cb := hD 3 rfl
      clear hD
      refine makes2 (x := .tmp 72) (X := v) (y := .tmp 73) (Y := Value.slice ab mb cb) ((by kernel_rfl : _ = vals 2).trans h2) ((by kernel_rfl : _ = vals 3).trans h3) (fun ρ rc rf q72 q73 => ?_)
      clear h2 h3
      refine makes_call (hof1 _ _ (hM0.adds hC).done (hbb.adds hC)) ?_ (by rintro e w' ⟨rfl, hb⟩; exact ⟨_, rfl, hb, rfl⟩)
      go_simp
    · refine showA_op 5 (by intro _ _ _; kernel_rfl) rfl rfl (fun c vals w hC hD => ?_)
      have h1 : vals 1 = .agg (T.map B8).toArray := hD 1 rfl
      have h4 : vals 4 = .agg (T.map B8).toArray := hD 4 rfl
      clear hD
      refine makes2 (x := .tmp 71) (X := Value.agg (T.map B8).toArray) (y := .tmp 74) (Y := Value.agg (T.map B8).toArray) ((by kernel_rfl : _ = vals 1).trans h1) ((by kernel_rfl : _ = vals 4).trans h4) (fun ρ rc rf q71 q74 => ?_)
      clear h1 h4
      exact makes_eql (hash_self _ hT2) rfl q71 q74 ⟨Adds.refl _, rfl⟩
    · refine showA_op 6 (by intro _ _ _; kernel_rfl) rfl rfl (fun c vals w hC hD => ?_)
      have h5 : vals 5 = .bool true := hD 5 rfl
      clear hD
      refine makes1 (x := .tmp 75) (X := Value.bool true) ((by kernel_rfl : _ = vals 5).trans h5) (fun ρ rc rf q75 => ?_)
      clear h5
      exact makes_move (.inl rfl) q75 ⟨Adds.refl _, rfl⟩
    · refine showA_run 7 (by intro _ _ _; kernel_rfl) (j := 6) (want := true) rfl rfl rfl (by intro _ _; kernel_rfl) rfl (fun c vals w hC hD => ⟨hD 6 rfl, ?_⟩)
      clear hD
      refine makes1 (x := .tmp 7) (X := Value.pointer (some ⟨g7, 0, none⟩)) (by kernel_rfl : _ = (Value.pointer (some ⟨g7, 0, none⟩) : Value)) (fun ρ rc rf q7 => ?_)
      (refine makes_value (v := .pointer (some ⟨g7, 4, none⟩)) ?_ ⟨Adds.refl _, rfl⟩; go_simp)
    · refine showA_run 8 (by intro _ _ _; kernel_rfl) (j := 6) (want := true) rfl rfl rfl (by intro _ _; kernel_rfl) rfl (fun c vals w hC hD => ⟨hD 6 rfl, ?_⟩)
      have h7 : vals 7 = .pointer (some ⟨g7, 4, none⟩) := hD 7 rfl
      clear hD
      refine makes1 (x := .tmp 77) (X := Value.pointer (some ⟨g7, 4, none⟩)) ((by kernel_rfl : _ = vals 7).trans h7) (fun ρ rc rf q77 => ?_)
      clear h7
      exact makes_load (hl4 _ hC) rfl q77 ⟨Adds.refl _, rfl⟩
    · refine showA_run 9 (by intro _ _ _; kernel_rfl) (j := 6) (want := true) rfl rfl rfl (by intro _ _; kernel_rfl) rfl (fun c vals w hC hD => ⟨hD 6 rfl, ?_⟩)
      clear hD
      refine makes1 (x := .tmp 0) (X := v) (by kernel_rfl : _ = (v : Value)) (fun ρ rc rf q0 => ?_)
      exact makes_move (.inl rfl) q0 ⟨Adds.refl _, rfl⟩
    · refine showA_run 10 (by intro _ _ _; kernel_rfl) (j := 6) (want := true) rfl rfl rfl (by intro _ _; kernel_rfl) rfl (fun c vals w hC hD => ⟨hD 6 rfl, ?_⟩)
      clear hD
      refine makes1 (x := .tmp 9) (X := Value.slice ab mb cb) (by kernel_rfl : _ = (Value.slice ab mb cb : Value)) (fun ρ rc rf q9 => ?_)
      exact makes_move (.inl rfl) q9 ⟨Adds.refl _, rfl⟩
    · refine showA_run 11 (by intro _ _ _; kernel_rfl) (j := 6) (want := true) rfl rfl rfl (by intro _ _; kernel_rfl) rfl (fun c vals w hC hD => ⟨hD 6 rfl, ?_⟩)
      have h9 : vals 9 = v := hD 9 rfl
      have h10 : vals 10 = .slice ab mb cb := hD 10 rfl
      clear hD
      refine makes2 (x := .tmp 79) (X := v) (y := .tmp 80) (Y := Value.slice ab mb cb) ((by kernel_rfl : _ = vals 9).trans h9) ((by kernel_rfl : _ = vals 10).trans h10) (fun ρ rc rf q79 q80 => ?_)
      clear h9 h10
      refine makes_call (hof2 _ _ (hM0.adds hC).done (hbb.adds hC)) ?_ (by rintro e w' ⟨rfl, hb⟩; exact ⟨_, rfl, hb, rfl⟩)
      go_simp
    · refine showA_run 12 (by intro _ _ _; kernel_rfl) (j := 6) (want := true) rfl rfl rfl (by intro _ _; kernel_rfl) rfl (fun c vals w hC hD => ⟨hD 6 rfl, ?_⟩)
      have h8 : vals 8 = .agg (T.map B8).toArray := hD 8 rfl
      have h11 : vals 11 = .agg (T.map B8).toArray := hD 11 rfl
      clear hD
      refine makes2 (x := .tmp 78) (X := Value.agg (T.map B8).toArray) (y := .tmp 81) (Y := Value.agg (T.map B8).toArray) ((by kernel_rfl : _ = vals 8).trans h8) ((by kernel_rfl : _ = vals 11).trans h11) (fun ρ rc rf q78 q81 => ?_)
      clear h8 h11
      exact makes_eql (hash_self _ hT2) rfl q78 q81 ⟨Adds.refl _, rfl⟩
    · refine showA_op 13 (by intro _ _ _; kernel_rfl) rfl rfl (fun c vals w hC hD => ?_)
      have h6 : vals 6 = .bool true := hD 6 rfl
      have h12 : vals 12 = .bool true := hD 12 rfl
      clear hD
      refine makes2 (x := .tmp 76) (X := Value.bool true) (y := .tmp 82) (Y := Value.bool true) ((by kernel_rfl : _ = vals 6).trans h6) ((by kernel_rfl : _ = vals 12).trans h12) (fun ρ rc rf q76 q82 => ?_)
      clear h6 h12
      refine makes_value (v := Value.bool true) ?_ ⟨Adds.refl _, rfl⟩
      go_simp
      all_goals first | done | rfl | (rw [if_pos (by omega)]; refine congrArg (fun x => Result.ok (Next.value (Value.pointer (some ⟨_, x, none⟩))) _) ?_; omega) | (rw [wrapP_i64]; omega) | go_num | (simp; done) | (simp; omega) | (congr 1; first | rfl | (rw [wrapP_i64]; omega) | (congr 1; first | rfl | (simp; done) | (simp; omega) | (congr 2; omega) | go_num))
    · refine showA_op 14 (by intro _ _ _; kernel_rfl) rfl rfl (fun c vals w hC hD => ?_)
      have h13 : vals 13 = .bool true := hD 13 rfl
      clear hD
      refine makes1 (x := .tmp 83) (X := Value.bool true) ((by kernel_rfl : _ = vals 13).trans h13) (fun ρ rc rf q83 => ?_)
      clear h13
      exact makes_move (.inl rfl) q83 ⟨Adds.refl _, rfl⟩
    · refine showA_run 15 (by intro _ _ _; kernel_rfl) (j := 14) (want := true) rfl rfl rfl (by intro _ _; kernel_rfl) rfl (fun c vals w hC hD => ⟨hD 14 rfl, ?_⟩)
      clear hD
      refine makes1 (x := .tmp 5) (X := Value.slice ao m cap) (by kernel_rfl : _ = (Value.slice ao m cap : Value)) (fun ρ rc rf q5 => ?_)
      exact makes_move (.inl rfl) q5 ⟨Adds.refl _, rfl⟩
    · refine showA_run 16 (by intro _ _ _; kernel_rfl) (j := 14) (want := true) rfl rfl rfl (by intro _ _; kernel_rfl) rfl (fun c vals w hC hD => ⟨hD 14 rfl, ?_⟩)
      have h15 : vals 15 = .slice ao m cap := hD 15 rfl
      clear hD
      refine makes1 (x := .tmp 85) (X := Value.slice ao m cap) ((by kernel_rfl : _ = vals 15).trans h15) (fun ρ rc rf q85 => ?_)
      clear h15
      refine makes_value (v := Value.int .i64 (m : Int)) ?_ ⟨Adds.refl _, rfl⟩
      go_simp
      all_goals first | done | rfl | (rw [if_pos (by omega)]; refine congrArg (fun x => Result.ok (Next.value (Value.pointer (some ⟨_, x, none⟩))) _) ?_; omega) | (rw [wrapP_i64]; omega) | go_num | (simp; done) | (simp; omega) | (congr 1; first | rfl | (rw [wrapP_i64]; omega) | (congr 1; first | rfl | (simp; done) | (simp; omega) | (congr 2; omega) | go_num))
    · refine showA_run 17 (by intro _ _ _; kernel_rfl) (j := 14) (want := true) rfl rfl rfl (by intro _ _; kernel_rfl) rfl (fun c vals w hC hD => ⟨hD 14 rfl, ?_⟩)
      clear hD
      refine makes1 (x := .tmp 3) (X := Value.pointer (some ⟨g3, 0, none⟩)) (by kernel_rfl : _ = (Value.pointer (some ⟨g3, 0, none⟩) : Value)) (fun ρ rc rf q3 => ?_)
      (refine makes_value (v := .pointer (some ⟨g3, 3, none⟩)) ?_ ⟨Adds.refl _, rfl⟩; go_simp)
    · refine showA_run 18 (by intro _ _ _; kernel_rfl) (j := 14) (want := true) rfl rfl rfl (by intro _ _; kernel_rfl) rfl (fun c vals w hC hD => ⟨hD 14 rfl, ?_⟩)
      have h17 : vals 17 = .pointer (some ⟨g3, 3, none⟩) := hD 17 rfl
      clear hD
      refine makes1 (x := .tmp 87) (X := Value.pointer (some ⟨g3, 3, none⟩)) ((by kernel_rfl : _ = vals 17).trans h17) (fun ρ rc rf q87 => ?_)
      clear h17
      exact makes_load (loads_cell (k4 _ hC) (on_of rfl)) rfl q87 ⟨Adds.refl _, rfl⟩
    · refine showA_run 19 (by intro _ _ _; kernel_rfl) (j := 14) (want := true) rfl rfl rfl (by intro _ _; kernel_rfl) rfl (fun c vals w hC hD => ⟨hD 14 rfl, ?_⟩)
      have h18 : vals 18 = .slice a0 n c0 := hD 18 rfl
      clear hD
      refine makes1 (x := .tmp 88) (X := Value.slice a0 n c0) ((by kernel_rfl : _ = vals 18).trans h18) (fun ρ rc rf q88 => ?_)
      clear h18
      refine makes_value (v := Value.int .i64 (n : Int)) ?_ ⟨Adds.refl _, rfl⟩
      go_simp
      all_goals first | done | rfl | (rw [if_pos (by omega)]; refine congrArg (fun x => Result.ok (Next.value (Value.pointer (some ⟨_, x, none⟩))) _) ?_; omega) | (rw [wrapP_i64]; omega) | go_num | (simp; done) | (simp; omega) | (congr 1; first | rfl | (rw [wrapP_i64]; omega) | (congr 1; first | rfl | (simp; done) | (simp; omega) | (congr 2; omega) | go_num))
    · refine showA_run 20 (by intro _ _ _; kernel_rfl) (j := 14) (want := true) rfl rfl rfl (by intro _ _; kernel_rfl) rfl (fun c vals w hC hD => ⟨hD 14 rfl, ?_⟩)
      have h19 : vals 19 = .int .i64 (n : Int) := hD 19 rfl
      clear hD
      refine makes1 (x := .tmp 89) (X := Value.int .i64 (n : Int)) ((by kernel_rfl : _ = vals 19).trans h19) (fun ρ rc rf q89 => ?_)
      clear h19
      (refine makes_value (v := .int .i64 (m : Int)) ?_ ⟨Adds.refl _, rfl⟩; go_simp; rw [wrapP_i64]; omega)
    · refine showA_run 21 (by intro _ _ _; kernel_rfl) (j := 14) (want := true) rfl rfl rfl (by intro _ _; kernel_rfl) rfl (fun c vals w hC hD => ⟨hD 14 rfl, ?_⟩)
      have h16 : vals 16 = .int .i64 (m : Int) := hD 16 rfl
      have h20 : vals 20 = .int .i64 (m : Int) := hD 20 rfl
      clear hD
      refine makes2 (x := .tmp 86) (X := Value.int .i64 (m : Int)) (y := .tmp 90) (Y := Value.int .i64 (m : Int)) ((by kernel_rfl : _ = vals 16).trans h16) ((by kernel_rfl : _ = vals 20).trans h20) (fun ρ rc rf q86 q90 => ?_)
      clear h16 h20
      (refine makes_value (v := .bool true) ?_ ⟨Adds.refl _, rfl⟩; go_simp)
    · refine showA_op 22 (by intro _ _ _; kernel_rfl) rfl rfl (fun c vals w hC hD => ?_)
      have h14 : vals 14 = .bool true := hD 14 rfl
      have h21 : vals 21 = .bool true := hD 21 rfl
      clear hD
      refine makes2 (x := .tmp 84) (X := Value.bool true) (y := .tmp 91) (Y := Value.bool true) ((by kernel_rfl : _ = vals 14).trans h14) ((by kernel_rfl : _ = vals 21).trans h21) (fun ρ rc rf q84 q91 => ?_)
      clear h14 h21
      refine makes_value (v := Value.bool true) ?_ ⟨Adds.refl _, rfl⟩
      go_simp
      all_goals first | done | rfl | (rw [if_pos (by omega)]; refine congrArg (fun x => Result.ok (Next.value (Value.pointer (some ⟨_, x, none⟩))) _) ?_; omega) | (rw [wrapP_i64]; omega) | go_num | (simp; done) | (simp; omega) | (congr 1; first | rfl | (rw [wrapP_i64]; omega) | (congr 1; first | rfl | (simp; done) | (simp; omega) | (congr 2; omega) | go_num))
    · refine showA_op 23 (by intro _ _ _; kernel_rfl) rfl rfl (fun c vals w hC hD => ?_)
      have h22 : vals 22 = .bool true := hD 22 rfl
      clear hD
      refine makes1 (x := .tmp 92) (X := Value.bool true) ((by kernel_rfl : _ = vals 22).trans h22) (fun ρ rc rf q92 => ?_)
      clear h22
      exact makes_move (.inl rfl) q92 ⟨Adds.refl _, rfl⟩
    · refine showA_run 24 (by intro _ _ _; kernel_rfl) (j := 23) (want := true) rfl rfl rfl (by intro _ _; kernel_rfl) rfl (fun c vals w hC hD => ⟨hD 23 rfl, ?_⟩)
      clear hD
      refine makes1 (x := .tmp 9) (X := Value.slice ab mb cb) (by kernel_rfl : _ = (Value.slice ab mb cb : Value)) (fun ρ rc rf q9 => ?_)
      exact makes_move (.inl rfl) q9 ⟨Adds.refl _, rfl⟩
    · refine showA_run 25 (by intro _ _ _; kernel_rfl) (j := 23) (want := true) rfl rfl rfl (by intro _ _; kernel_rfl) rfl (fun c vals w hC hD => ⟨hD 23 rfl, ?_⟩)
      have h24 : vals 24 = .slice ab mb cb := hD 24 rfl
      clear hD
      refine makes1 (x := .tmp 94) (X := Value.slice ab mb cb) ((by kernel_rfl : _ = vals 24).trans h24) (fun ρ rc rf q94 => ?_)
      clear h24
      refine makes_value (v := Value.int .i64 (mb : Int)) ?_ ⟨Adds.refl _, rfl⟩
      go_simp
      all_goals first | done | rfl | (rw [if_pos (by omega)]; refine congrArg (fun x => Result.ok (Next.value (Value.pointer (some ⟨_, x, none⟩))) _) ?_; omega) | (rw [wrapP_i64]; omega) | go_num | (simp; done) | (simp; omega) | (congr 1; first | rfl | (rw [wrapP_i64]; omega) | (congr 1; first | rfl | (simp; done) | (simp; omega) | (congr 2; omega) | go_num))
    · refine showA_run 26 (by intro _ _ _; kernel_rfl) (j := 23) (want := true) rfl rfl rfl (by intro _ _; kernel_rfl) rfl (fun c vals w hC hD => ⟨hD 23 rfl, ?_⟩)
      clear hD
      refine makes1 (x := .tmp 5) (X := Value.slice ao m cap) (by kernel_rfl : _ = (Value.slice ao m cap : Value)) (fun ρ rc rf q5 => ?_)
      exact makes_move (.inl rfl) q5 ⟨Adds.refl _, rfl⟩
    · refine showA_run 27 (by intro _ _ _; kernel_rfl) (j := 23) (want := true) rfl rfl rfl (by intro _ _; kernel_rfl) rfl (fun c vals w hC hD => ⟨hD 23 rfl, ?_⟩)
      have h26 : vals 26 = .slice ao m cap := hD 26 rfl
      clear hD
      refine makes1 (x := .tmp 96) (X := Value.slice ao m cap) ((by kernel_rfl : _ = vals 26).trans h26) (fun ρ rc rf q96 => ?_)
      clear h26
      refine makes_value (v := Value.int .i64 (m : Int)) ?_ ⟨Adds.refl _, rfl⟩
      go_simp
      all_goals first | done | rfl | (rw [if_pos (by omega)]; refine congrArg (fun x => Result.ok (Next.value (Value.pointer (some ⟨_, x, none⟩))) _) ?_; omega) | (rw [wrapP_i64]; omega) | go_num | (simp; done) | (simp; omega) | (congr 1; first | rfl | (rw [wrapP_i64]; omega) | (congr 1; first | rfl | (simp; done) | (simp; omega) | (congr 2; omega) | go_num))
    · refine showA_run 28 (by intro _ _ _; kernel_rfl) (j := 23) (want := true) rfl rfl rfl (by intro _ _; kernel_rfl) rfl (fun c vals w hC hD => ⟨hD 23 rfl, ?_⟩)
      have h27 : vals 27 = .int .i64 (m : Int) := hD 27 rfl
      clear hD
      refine makes1 (x := .tmp 97) (X := Value.int .i64 (m : Int)) ((by kernel_rfl : _ = vals 27).trans h27) (fun ρ rc rf q97 => ?_)
      clear h27
      (refine makes_value (v := .int .i64 (mb : Int)) ?_ ⟨Adds.refl _, rfl⟩; go_simp; rw [wrapP_i64]; omega)
    · refine showA_run 29 (by intro _ _ _; kernel_rfl) (j := 23) (want := true) rfl rfl rfl (by intro _ _; kernel_rfl) rfl (fun c vals w hC hD => ⟨hD 23 rfl, ?_⟩)
      have h25 : vals 25 = .int .i64 (mb : Int) := hD 25 rfl
      have h28 : vals 28 = .int .i64 (mb : Int) := hD 28 rfl
      clear hD
      refine makes2 (x := .tmp 95) (X := Value.int .i64 (mb : Int)) (y := .tmp 98) (Y := Value.int .i64 (mb : Int)) ((by kernel_rfl : _ = vals 25).trans h25) ((by kernel_rfl : _ = vals 28).trans h28) (fun ρ rc rf q95 q98 => ?_)
      clear h25 h28
      (refine makes_value (v := .bool true) ?_ ⟨Adds.refl _, rfl⟩; go_simp)
    · refine showA_op 30 (by intro _ _ _; kernel_rfl) rfl rfl (fun c vals w hC hD => ?_)
      have h23 : vals 23 = .bool true := hD 23 rfl
      have h29 : vals 29 = .bool true := hD 29 rfl
      clear hD
      refine makes2 (x := .tmp 93) (X := Value.bool true) (y := .tmp 99) (Y := Value.bool true) ((by kernel_rfl : _ = vals 23).trans h23) ((by kernel_rfl : _ = vals 29).trans h29) (fun ρ rc rf q93 q99 => ?_)
      clear h23 h29
      refine makes_value (v := Value.bool true) ?_ ⟨Adds.refl _, rfl⟩
      go_simp
      all_goals first | done | rfl | (rw [if_pos (by omega)]; refine congrArg (fun x => Result.ok (Next.value (Value.pointer (some ⟨_, x, none⟩))) _) ?_; omega) | (rw [wrapP_i64]; omega) | go_num | (simp; done) | (simp; omega) | (congr 1; first | rfl | (rw [wrapP_i64]; omega) | (congr 1; first | rfl | (simp; done) | (simp; omega) | (congr 2; omega) | go_num))
    · refine showA_op 31 (by intro _ _ _; kernel_rfl) rfl rfl (fun c vals w hC hD => ?_)
      have h30 : vals 30 = .bool true := hD 30 rfl
      clear hD
      refine makes1 (x := .tmp 100) (X := Value.bool true) ((by kernel_rfl : _ = vals 30).trans h30) (fun ρ rc rf q100 => ?_)
      clear h30
      exact makes_move (.inl rfl) q100 ⟨Adds.refl _, rfl⟩
    · refine showA_run 32 (by intro _ _ _; kernel_rfl) (j := 31) (want := true) rfl rfl rfl (by intro _ _; kernel_rfl) rfl (fun c vals w hC hD => ⟨hD 31 rfl, ?_⟩)
      clear hD
      refine makes1 (x := .tmp 5) (X := Value.slice ao m cap) (by kernel_rfl : _ = (Value.slice ao m cap : Value)) (fun ρ rc rf q5 => ?_)
      exact makes_move (.inl rfl) q5 ⟨Adds.refl _, rfl⟩
    · refine showA_run 33 (by intro _ _ _; kernel_rfl) (j := 31) (want := true) rfl rfl rfl (by intro _ _; kernel_rfl) rfl (fun c vals w hC hD => ⟨hD 31 rfl, ?_⟩)
      clear hD
      refine makes1 (x := .tmp 5) (X := Value.slice ao m cap) (by kernel_rfl : _ = (Value.slice ao m cap : Value)) (fun ρ rc rf q5 => ?_)
      exact makes_move (.inl rfl) q5 ⟨Adds.refl _, rfl⟩
    · refine showA_run 34 (by intro _ _ _; kernel_rfl) (j := 31) (want := true) rfl rfl rfl (by intro _ _; kernel_rfl) rfl (fun c vals w hC hD => ⟨hD 31 rfl, ?_⟩)
      have h33 : vals 33 = .slice ao m cap := hD 33 rfl
      clear hD
      refine makes1 (x := .tmp 103) (X := Value.slice ao m cap) ((by kernel_rfl : _ = vals 33).trans h33) (fun ρ rc rf q103 => ?_)
      clear h33
      refine makes_value (v := Value.int .i64 (m : Int)) ?_ ⟨Adds.refl _, rfl⟩
      go_simp
      all_goals first | done | rfl | (rw [if_pos (by omega)]; refine congrArg (fun x => Result.ok (Next.value (Value.pointer (some ⟨_, x, none⟩))) _) ?_; omega) | (rw [wrapP_i64]; omega) | go_num | (simp; done) | (simp; omega) | (congr 1; first | rfl | (rw [wrapP_i64]; omega) | (congr 1; first | rfl | (simp; done) | (simp; omega) | (congr 2; omega) | go_num))
    · refine showA_run 35 (by intro _ _ _; kernel_rfl) (j := 31) (want := true) rfl rfl rfl (by intro _ _; kernel_rfl) rfl (fun c vals w hC hD => ⟨hD 31 rfl, ?_⟩)
      have h34 : vals 34 = .int .i64 (m : Int) := hD 34 rfl
      clear hD
      refine makes1 (x := .tmp 104) (X := Value.int .i64 (m : Int)) ((by kernel_rfl : _ = vals 34).trans h34) (fun ρ rc rf q104 => ?_)
      clear h34
      (refine makes_value (v := .int .i64 (mb : Int)) ?_ ⟨Adds.refl _, rfl⟩; go_simp; rw [wrapP_i64]; omega)
    · refine showA_run 36 (by intro _ _ _; kernel_rfl) (j := 31) (want := true) rfl rfl rfl (by intro _ _; kernel_rfl) rfl (fun c vals w hC hD => ⟨hD 31 rfl, ?_⟩)
      have h32 : vals 32 = .slice ao m cap := hD 32 rfl
      have h35 : vals 35 = .int .i64 (mb : Int) := hD 35 rfl
      clear hD
      refine makes2 (x := .tmp 102) (X := Value.slice ao m cap) (y := .tmp 105) (Y := Value.int .i64 (mb : Int)) ((by kernel_rfl : _ = vals 32).trans h32) ((by kernel_rfl : _ = vals 35).trans h35) (fun ρ rc rf q102 q105 => ?_)
      clear h32 h35
      exact makes_slice hST rfl q102 (congrArg some q105) rfl rfl ⟨Adds.refl _, rfl⟩
    · refine showA_run 37 (by intro _ _ _; kernel_rfl) (j := 31) (want := true) rfl rfl rfl (by intro _ _; kernel_rfl) rfl (fun c vals w hC hD => ⟨hD 31 rfl, ?_⟩)
      have h36 : vals 36 = .slice aoT 32 (cap - mb) := hD 36 rfl
      clear hD
      refine makes1 (x := .tmp 106) (X := Value.slice aoT 32 (cap - mb)) ((by kernel_rfl : _ = vals 36).trans h36) (fun ρ rc rf q106 => ?_)
      clear h36
      (have hs' := str_of (hBT.adds hC); refine makes_value (v := .string ⟨T.toArray⟩) ?_ ⟨Adds.refl _, rfl⟩; go_simp)
    · refine showA_run 38 (by intro _ _ _; kernel_rfl) (j := 31) (want := true) rfl rfl rfl (by intro _ _; kernel_rfl) rfl (fun c vals w hC hD => ⟨hD 31 rfl, ?_⟩)
      clear hD
      refine makes1 (x := .tmp 7) (X := Value.pointer (some ⟨g7, 0, none⟩)) (by kernel_rfl : _ = (Value.pointer (some ⟨g7, 0, none⟩) : Value)) (fun ρ rc rf q7 => ?_)
      (refine makes_value (v := .pointer (some ⟨g7, 4, none⟩)) ?_ ⟨Adds.refl _, rfl⟩; go_simp)
    · refine showA_run 39 (by intro _ _ _; kernel_rfl) (j := 31) (want := true) rfl rfl rfl (by intro _ _; kernel_rfl) rfl (fun c vals w hC hD => ⟨hD 31 rfl, ?_⟩)
      have h38 : vals 38 = .pointer (some ⟨g7, 4, none⟩) := hD 38 rfl
      clear hD
      refine makes1 (x := .tmp 108) (X := Value.pointer (some ⟨g7, 4, none⟩)) ((by kernel_rfl : _ = vals 38).trans h38) (fun ρ rc rf q108 => ?_)
      clear h38
      exact makes_slice (slice_arr_all (t := 25) (ua_of rfl) (by exact elOne rfl)) rfl q108 rfl rfl rfl ⟨Adds.refl _, rfl⟩
    · refine showA_run 40 (by intro _ _ _; kernel_rfl) (j := 31) (want := true) rfl rfl rfl (by intro _ _; kernel_rfl) rfl (fun c vals w hC hD => ⟨hD 31 rfl, ?_⟩)
      have h39 : vals 39 = .slice (some ⟨g7, 4, none⟩) 32 32 := hD 39 rfl
      clear hD
      refine makes1 (x := .tmp 109) (X := Value.slice (some ⟨g7, 4, none⟩) 32 32) ((by kernel_rfl : _ = vals 39).trans h39) (fun ρ rc rf q109 => ?_)
      clear h39
      (have hs' := str_of (tag_bytes (x := ⟨xs, xk, xv, PB, T⟩) (hM.adds hC) (.head _) hT2); refine makes_value (v := .string ⟨T.toArray⟩) ?_ ⟨Adds.refl _, rfl⟩; go_simp)
    · refine showA_run 41 (by intro _ _ _; kernel_rfl) (j := 31) (want := true) rfl rfl rfl (by intro _ _; kernel_rfl) rfl (fun c vals w hC hD => ⟨hD 31 rfl, ?_⟩)
      have h37 : vals 37 = .string ⟨T.toArray⟩ := hD 37 rfl
      have h40 : vals 40 = .string ⟨T.toArray⟩ := hD 40 rfl
      clear hD
      refine makes2 (x := .tmp 107) (X := Value.string ⟨T.toArray⟩) (y := .tmp 110) (Y := Value.string ⟨T.toArray⟩) ((by kernel_rfl : _ = vals 37).trans h37) ((by kernel_rfl : _ = vals 40).trans h40) (fun ρ rc rf q107 q110 => ?_)
      clear h37 h40
      (refine makes_value (v := .bool true) ?_ ⟨Adds.refl _, rfl⟩; go_simp)
    · refine showA_op 42 (by intro _ _ _; kernel_rfl) rfl rfl (fun c vals w hC hD => ?_)
      have h31 : vals 31 = .bool true := hD 31 rfl
      have h41 : vals 41 = .bool true := hD 41 rfl
      clear hD
      refine makes2 (x := .tmp 101) (X := Value.bool true) (y := .tmp 111) (Y := Value.bool true) ((by kernel_rfl : _ = vals 31).trans h31) ((by kernel_rfl : _ = vals 41).trans h41) (fun ρ rc rf q101 q111 => ?_)
      clear h31 h41
      refine makes_value (v := Value.bool true) ?_ ⟨Adds.refl _, rfl⟩
      go_simp
      all_goals first | done | rfl | (rw [if_pos (by omega)]; refine congrArg (fun x => Result.ok (Next.value (Value.pointer (some ⟨_, x, none⟩))) _) ?_; omega) | (rw [wrapP_i64]; omega) | go_num | (simp; done) | (simp; omega) | (congr 1; first | rfl | (rw [wrapP_i64]; omega) | (congr 1; first | rfl | (simp; done) | (simp; omega) | (congr 2; omega) | go_num))
    · refine showA_op 43 (by intro _ _ _; kernel_rfl) rfl rfl (fun c vals w hC hD => ?_)
      have h42 : vals 42 = .bool true := hD 42 rfl
      clear hD
      refine makes1 (x := .tmp 112) (X := Value.bool true) ((by kernel_rfl : _ = vals 42).trans h42) (fun ρ rc rf q112 => ?_)
      clear h42
      exact makes_move (.inr rfl) q112 ⟨Adds.refl _, rfl⟩
    intro vals w' hC hΦ hne
    have h43 : vals 43 = .bool true := hΦ 43 (by decide)
    clear hΦ hne
    simp only [List.getD_eq_getElem?_getD, List.getElem?_cons_zero, List.getElem?_cons_succ, Option.getD_some, List.drop_succ_cons, List.drop_zero]
    simp only [h43]
    clear h43
    try simp only [tuple_undef]
    replace hM0 := hM0.adds hC
    clear hC
    go_wp2_with fail
    go_ret
    exact ⟨rfl, hM0.done⟩
  · rw [make_no hkk hk0] at h1
    have hki : ¬ (kk : Int) = 0 := by omega
    clear hkk
    generalize imC xi p0 = C at *
    go_enter Tryd.func6, Tryd.ntmps6
    go_wp2_with (first
      | ((with_reducible refine gL_box hM ?_); refine ⟨_, _, _, rfl, rfl, hC, ?_⟩; intro g3 _ hM2; clear hM; have hM := hM2; clear hM2))
    refine (law11_awake _ (hg.mem hM)).mono ?_
    rintro _ w1 ⟨rfl, B1⟩
    replace hM := hM.adds B1
    clear B1
    go_wp2_with (first
      | ((with_reducible refine gL_load (dst := some 14) ?_); refine ⟨_, _, rfl, hM.loads_all (.head _) (ag_of rfl) hC, ?_⟩))
    refine (h1 _ hM.done).mono ?_
    rintro _ w2 ⟨ao, m', cap, rfl, hm1, -, B1⟩
    obtain rfl : 0 = m' := hm1.eq
    replace hM := hM.adds B1
    clear B1 h1 hm1
    rcases hkw with rfl | rfl | rfl
    · exact absurd rfl hk0
    · go_wp2_with fail
      go_ret
      exact ⟨rfl, hM.done⟩
    · go_wp2_with fail
      go_ret
      exact ⟨rfl, hM.done⟩
end Go.Proofs.YtejmbkljnhnklaaDoor
