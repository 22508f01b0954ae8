/-
  The walk of law 11's awake, and of ImageNames.
-/
import Derived.Test.YtejmbkljnhnklaaDoorImgT
namespace Go.Proofs.YtejmbkljnhnklaaDoor
open Go.RowKit Go.PK
theorem wrong_self (c k : Nat) : EqTo Tryd.prog 39 (wrongC c k).toArray (wrongC c k).toArray true := by
  refine ⟨by kernel_rfl, fun w => ?_⟩
  show (Op.equalIn (9999 + 1) 39 (.agg #[.int .i64 (c : Int), .int .i64 (k : Int)]) (.agg #[.int .i64 (c : Int), .int .i64 (k : Int)])).run Tryd.prog w = _
  rw [run_equalIn_struct w 9999 39 _ _ (by kernel_rfl) (by kernel_rfl)]
  go_simp
def wake : Img.Im := ⟨1, 2, 258, [170], List.replicate 32 0⟩
theorem wake_may : Img.may wake = 0 := by decide
theorem wake_cover : Img.cover wake = [80, 67, 85, 76, 1, 1, 2, 0, 2, 1, 0, 0, 1, 0, 0, 0, 170] := by decide
theorem wake_nil : Img.parse [] = (Img.im0, (6, 0)) := by
  rw [parse_first (e := (6, 0)) (by decide) (by rfl)]

set_option maxRecDepth 100000 in
set_option maxHeartbeats 4000000 in
theorem law11_awake (w0 : World) (hg : TypeLaid w0) : Calls Tryd.prog 9 #[] w0 fun e w' => e = .returned (.bool true) ∧ Below w0.heap.size w0 w' := by
  have hM := Mem.start w0
  obtain ⟨T, hTT⟩ : ∃ T, Mac.tag [] (Img.cover wake) = T := ⟨_, rfl⟩
  have hT2 : Len T 32 := by rw [← hTT]; exact Len.of (Mac.tag_len _ _)
  have hmk := make_yes wake_may hTT
  have hpm : Img.parse (Img.cover wake ++ T) = (⟨1, 2, 258, [170], T⟩, (0, 0)) := Img.parse_made wake_may hT2.eq
  have hbl : Len (Img.cover wake ++ T) 49 := Len.of (by rw [List.length_append, wake_cover, hT2.eq]; rfl)
  have hb8 : gb (Img.cover wake ++ T) 8 = 2 := by rw [wake_cover]; rfl
  have hb9 : gb (Img.cover wake ++ T) 9 = 1 := by rw [wake_cover]; rfl
  have hbd : Len (Img.body (Img.cover wake ++ T)) 17 := Len.of (by rw [body_long hbl (by decide), List.length_take, hbl.eq]; rfl)
  have hmake : ∀ w p, Bytes w p [170] → _ := fun w p h => image_Make w (.slice none 0 0) [] (Bytes.nil w) (by decide) wake p h (Len.rep 32 0)
  rw [hmk] at hmake
  have hzC := imC_len (x := Img.im0) (Len.rep 32 0) (.slice none 0 0)
  have hz := im0_zero
  have hbld : ∀ (w : World) (ao : Option Addr) (n c : Nat), (Instr.build 27 #[(0, .int .i64 1), (1, .int .i64 2), (2, .int .i64 258), (3, .slice ao n c)]).run Tryd.prog w = .ok (.agg (imC wake (.slice ao n c)).toArray) w := fun w ao n c => by kernel_rfl
  obtain ⟨B, hB⟩ : ∃ B, B = Img.cover wake ++ T := ⟨_, rfl⟩
  rw [← hB] at hpm hbl hb8 hb9 hbd hmake
  clear hB hmk hTT
  have hC1o : ∀ p, p.oneCell' = true → ∀ v ∈ imC ⟨1, 2, 258, [170], T⟩ p, v.oneCell' = true := fun p hp v hv => by
    rcases List.mem_append.1 hv with h | h
    · simp at h
      rcases h with rfl | rfl | rfl | rfl
      · rfl
      · rfl
      · rfl
      · exact hp
    · obtain ⟨c, _, rfl⟩ := List.mem_map.1 h
      rfl
  go_enter Tryd.func9, Tryd.ntmps9
  go_wp2_with (first
    | ((with_reducible refine gL_buildBytes (dst := some 10) hM ?_); refine ⟨_, _, (us_of rfl), (el_of rfl), (by decide), (by decide), rfl, (by (repeat (first | exact EvB.nil | apply EvB.cons rfl (by first | exact (rfl : B8 _ = B8 _) | exact lit8 _ (by decide)))); done), ?_⟩; intro g10 _ hM2; clear hM; have hM := hM2; clear hM2))
  refine (hmake _ _ (hM.whole (n := 1) (.head _) rfl (by decide))).mono ?_
  rintro _ w1 ⟨ob, m, cap, rfl, hm, hc, hM1⟩
  have hm49 : m = 49 := hm.eq.symm.trans hbl.eq
  subst hm49
  obtain ⟨gB, rfl⟩ := hM1.some_of (.head _) (n := 49) (Len.of (by rw [List.length_map]; exact hbl.eq)) (by decide)
  replace hM := hM.addMem hM1
  simp only [List.cons_append, List.nil_append] at hM
  clear hM1 hmake
  have hC1l : ∀ p, Len (imC ⟨1, 2, 258, [170], T⟩ p) 36 := fun p => imC_len (x := ⟨1, 2, 258, [170], T⟩) hT2 p
  go_wp2_with fail
  have hpz := image_Parse w1 (.slice (some ⟨gB, 0, none⟩) 49 cap) B (hM.whole (.head _) hbl (by simpa [maxLen] using hc)) (by rw [hbl.eq]; decide)
  refine hpz.mono ?_
  clear hpz
  rintro _ w2 (⟨x, g1, o1, cap1, n1, hx, -, -, rfl, -, -, hc1, -, -, hM1⟩ | ⟨ec, ek, g1, hx, hne, rfl, hM1⟩)
  case inr =>
    have h0 : (0 : Nat) = ec := congrArg (fun z => z.2.1) (hpm.symm.trans hx)
    exact absurd h0.symm hne
  obtain rfl : x = ⟨1, 2, 258, [170], T⟩ := congrArg Prod.fst (hx.symm.trans hpm)
  clear hx
  replace hM := hM.addMem hM1
  simp only [List.cons_append, List.nil_append] at hM
  clear hM1
  go_wp2_with (first
    | ((with_reducible refine gL_alloc (dst := some 3) hM ?_); refine ⟨_, _, hz, ?_⟩; intro g3 _ hM2; clear hM; have hM := hM2; clear hM2)
    | ((with_reducible refine gL_store (x := .tmp 3) hM ?_); refine ⟨_, _, _, rfl, rfl, hM.stores_all (.here _ _ _) (ag_of rfl) (hC1l _) hzC (hC1o _ rfl), ?_⟩; intro _ hM2; clear hM; have hM := hM2; clear hM2))
  have hpn := fun w => image_Parse w (.slice none 0 0) [] (Bytes.nil w) (by decide)
  refine (hpn _).mono ?_
  clear hpn
  rintro _ w3 (⟨x, g2, o2, cap2, n2, hx, -, -, rfl, -, -, hc2, -, -, hM1⟩ | ⟨ec, ek, g2, hx, hne, rfl, hM1⟩)
  case inl =>
    have h0 : (6 : Nat) = 0 := congrArg (fun z => z.2.1) (wake_nil.symm.trans hx)
    cases h0
  have hck : (ec, ek) = (6, 0) := congrArg Prod.snd (hx.symm.trans wake_nil)
  cases hck
  clear hx hne
  replace hM := hM.addMem hM1
  simp only [List.cons_append, List.nil_append] at hM
  clear hM1
  go_wp2_with (first
    | ((with_reducible refine gL_alloc (dst := some 5) hM ?_); refine ⟨_, _, hz, ?_⟩; intro g5 _ hM2; clear hM; have hM := hM2; clear hM2)
    | ((with_reducible refine gL_store (x := .tmp 5) hM ?_); refine ⟨_, _, _, rfl, rfl, hM.stores_all (.here _ _ _) (ag_of rfl) hzC hzC (one_of_all rfl), ?_⟩; intro _ hM2; clear hM; have hM := hM2; clear hM2))
  refine (told_err _ (hg.mem hM) g2 6 0 (hM.rowN (.tail _ (.head _)) rfl) (by decide)).mono ?_
  rintro _ w4 ⟨rfl, B1⟩
  replace hM := hM.adds B1
  clear B1
  go_wp2_with (first
    | ((with_reducible refine gL_alloc (dst := some 7) hM ?_); refine ⟨_, wrongC 0 0, _, (zr_of rfl), ?_⟩; intro g7 _ hM2; clear hM; have hM := hM2; clear hM2)
    | ((with_reducible refine gL_store (x := .tmp 7) hM ?_); refine ⟨_, _, _, rfl, rfl, hM.stores_all (C1 := wrongC 6 0) (.here _ _ _) (ag_of rfl) rfl rfl (one_of_all rfl), ?_⟩; intro _ hM2; clear hM; have hM := hM2; clear hM2)
    | ((with_reducible refine gG_load (dst := some 43) ?_ ?_); (exact wanted_of rfl rfl rfl rfl rfl); refine ⟨_, _, rfl, (by have h := hM.loads_B8 (P := Tryd.prog) (ty := 5) (g := gB) (off := 8) (l := B) (by (repeat (first | exact .head _ | apply List.Mem.tail)); done) (on_of rfl) (by rw [hbl.eq]; decide); rw [hb8] at h; exact h), ?_⟩)
    | ((with_reducible refine gG_load (dst := some 49) ?_ ?_); (exact wanted_of rfl rfl rfl rfl rfl); refine ⟨_, _, rfl, (by have h := hM.loads_B8 (P := Tryd.prog) (ty := 5) (g := gB) (off := 9) (l := B) (by (repeat (first | exact .head _ | apply List.Mem.tail)); done) (on_of rfl) (by rw [hbl.eq]; decide); rw [hb9] at h; exact h), ?_⟩)
    | go_skip | ((first | (with_reducible refine gL_load ?_) | ((with_reducible refine gG_load ?_ ?_); (exact wanted_of rfl rfl rfl rfl rfl))); refine ⟨_, _, rfl, (by (first | (assumption) | (exact hM.loads_B8 (by (repeat (first | exact .head _ | apply List.Mem.tail)); done) (on_of rfl) (by first | omega | (simp only [Len] at *; omega) | (simp; omega))) | (exact hM.loads_all (by (repeat (first | exact .head _ | apply List.Mem.tail)); done) (ag_of rfl) (by first | assumption | exact Len.map (by assumption) _ | rfl | exact Len.map (by rfl) _ | exact Len.of (by simp; done))) | (exact hM.loads_one (by (repeat (first | exact .head _ | apply List.Mem.tail)); done) (on_of rfl) rfl) | (exact hM.loads_W32 (by (repeat (first | exact .head _ | apply List.Mem.tail)); done) (on_of rfl) (by first | omega | (simp only [Len] at *; omega) | (simp; omega))) | (exact loads_cell (by assumption) (on_of rfl)))), ?_⟩) | ((with_reducible refine gL_store hM ?_); refine ⟨_, _, _, rfl, rfl, (by (first | (exact hM.stores_B8 (by first | exact (rfl : B8 _ = B8 _) | exact lit8 _ (by decide)) (by (repeat (first | exact .here _ _ _ | apply Has.there)); done) (on_of rfl) (by first | omega | (simp only [Len] at *; omega) | (simp; omega))) | (exact hM.stores_all (by (repeat (first | exact .here _ _ _ | apply Has.there)); done) (ag_of rfl) (by first | assumption | exact Len.map (by assumption) _ | rfl | exact Len.map (by rfl) _ | exact Len.of (by simp; done)) (by first | assumption | exact Len.map (by assumption) _ | rfl | exact Len.map (by rfl) _ | exact Len.of (by simp; done)) (by first | exact B8_one | exact W32_one | exact one_of_all rfl)) | (exact hM.stores_W32 rfl (by (repeat (first | exact .here _ _ _ | apply Has.there)); done) (on_of rfl) (by first | omega | (simp only [Len] at *; omega) | (simp; omega))) | (exact hM.stores_one (by (repeat (first | exact .here _ _ _ | apply Has.there)); done) (on_of rfl) (by first | omega | (simp only [Len] at *; omega) | (simp; omega)) rfl rfl))), ?_⟩; intro _ hM2; clear hM; have hM := hM2; clear hM2) | ((with_reducible refine gL_alloc hM ?_); refine ⟨_, _, (zr_of rfl), ?_⟩; intro _ _ hM2; clear hM; have hM := hM2; clear hM2) | ((with_reducible refine gL_box hM ?_); refine ⟨_, _, _, rfl, rfl, (by first | assumption | exact Len.map (by assumption) _ | rfl | exact Len.map (by rfl) _ | exact Len.of (by simp; done)), ?_⟩; intro _ _ hM2; clear hM; have hM := hM2; clear hM2) | ((with_reducible refine gL_build0 ?_); refine ⟨_, _, _, _, _, _, (zr_of rfl), (ua_of rfl), (ag_of rfl), (el_of rfl), ?_⟩) | ((with_reducible refine gL_buildBytes hM ?_); refine ⟨_, _, (us_of rfl), (el_of rfl), (by decide), (by decide), rfl, (by (repeat (first | exact EvB.nil | apply EvB.cons rfl (by first | exact (rfl : B8 _ = B8 _) | exact lit8 _ (by decide)))); done), ?_⟩; intro _ _ hM2; clear hM; have hM := hM2; clear hM2) | ((with_reducible refine gL_append_B hM ?_); refine ⟨_, _, _, _, _, _, _, _, _, _, rfl, rfl, (by first | exact (rfl : Value.slice (some ⟨_, 0, none⟩) _ _ = sl (some _) _ _) | exact (rfl : Value.slice none _ _ = sl none _ _) | rfl), (us_of rfl), (el_of rfl), (by first | exact hM.src (by (repeat (first | exact .head _ | apply List.Mem.tail)); done) | exact (hM.bytes0 (by assumption)).src), (fun _ _ => by (repeat (first | exact .here _ _ _ | apply Swap.there)); done), (by first | assumption | exact Len.map (by assumption) _ | rfl | exact Len.map (by rfl) _ | exact Len.of (by simp; done)), (by first | assumption | exact Len.map (by assumption) _ | rfl | exact Len.map (by rfl) _ | exact Len.of (by simp; done)), (by first | assumption | (simp [maxLen]; done) | omega | (simp [maxLen]; omega)), (by first | omega | (simp only [Len] at *; omega) | (simp; omega)), ?_⟩; intro _ _ _ hM2 _ _; clear hM; have hM := hM2; clear hM2) | ((first | (with_reducible refine gL_field ?_) | ((with_reducible refine gG_field ?_ ?_); (exact wanted_of rfl rfl rfl rfl rfl))); refine ⟨_, _, rfl, (by (first | (exact field_one (fb_of rfl) rfl) | (exact field_agg (fa_of rfl) rfl))), ?_⟩) | ((first | (with_reducible refine gL_eql ?_) | (with_reducible refine gL_neq ?_) | ((with_reducible refine gG_eql ?_ ?_); (exact wanted_of rfl rfl rfl rfl rfl)) | ((with_reducible refine gG_neq ?_ ?_); (exact wanted_of rfl rfl rfl rfl rfl))); refine ⟨_, _, _, rfl, rfl, (by first | exact wrong_self _ _), ?_⟩))
  refine (image_Body _ (.slice (some ⟨gB, 0, none⟩) 49 cap) B (hM.whole (.tail _ (.tail _ (.tail _ (.tail _ (.tail _ (.head _)))))) hbl (by simpa [maxLen] using hc)) (by rw [hbl.eq]; decide)).mono ?_
  rintro _ w5 ⟨ob5, m5, cap5, rfl, hm5, -, hM1⟩
  obtain rfl : m5 = 17 := hm5.eq.symm.trans hbd.eq
  obtain ⟨ao5, hao⟩ : ∃ ao, sl ob5 17 cap5 = .slice ao 17 cap5 := ⟨_, rfl⟩
  rw [hao]
  replace hM := hM.adds hM1.done
  clear hM1 hm5 hao
  go_wp2_with fail
  go_ret
  exact ⟨rfl, hM.done⟩

theorem ImageNames_walk (w0 : World) (hg : TypeLaid w0) : Calls Tryd.prog 3 #[] w0 fun e w' => e = .returned (.bool true) ∧ Below w0.heap.size w0 w' := by
  go_enter Tryd.func3, Tryd.ntmps3
  go_wp2_with fail
  refine (law11_awake w0 hg).mono ?_
  rintro _ w1 ⟨rfl, B1⟩
  go_wp2_with fail
  go_ret
  exact ⟨rfl, B1⟩
end Go.Proofs.YtejmbkljnhnklaaDoor
