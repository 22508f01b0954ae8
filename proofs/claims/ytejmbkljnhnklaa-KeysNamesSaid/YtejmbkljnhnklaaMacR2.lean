/-
  The walk of the reference of layer 3: Of.
-/
import Derived.Test.YtejmbkljnhnklaaMacR
import Derived.Test.YtejmbkljnhnklaaRg2
namespace Go.Proofs.Ytejmbkljnhnklaa
open Go.RowKit Go.PK
set_option maxRecDepth 100000 in
set_option maxHeartbeats 4000000 in
theorem ref03_Of (w0 : World) (v1 v2 : Value) (key m : List UInt8) (hv1 : Bytes w0 v1 key) (hv2 : Bytes w0 v2 m) (h1 : key.length ≤ 140737488355000) (h2 : m.length ≤ 140737488354900) (T : List UInt8) (hT : Mac.tag key m = T) :
    Calls Try.prog 30 #[v1, v2] w0 fun e w' => e = .returned (.agg (T.map B8).toArray) ∧ Below w0.heap.size w0 w' := by
  have hTl : Len T 32 := by rw [← hT]; exact Len.of (Mac.tag_len _ _)
  obtain ⟨K, hK⟩ : ∃ K, Mac.block key = K := ⟨_, rfl⟩
  have hKl : Len K 64 := by rw [← hK]; exact Len.of (Mac.block_len _)
  obtain ⟨I, hI⟩ : ∃ I, Mac.over K 0x36 = I := ⟨_, rfl⟩
  have hIl : Len I 64 := by rw [← hI]; exact Len.of (by rw [Mac.over_len, hKl.eq])
  obtain ⟨O, hO⟩ : ∃ O, Mac.over K 0x5C = O := ⟨_, rfl⟩
  have hOl : Len O 64 := by rw [← hO]; exact Len.of (by rw [Mac.over_len, hKl.eq])
  obtain ⟨H, hH⟩ : ∃ H, Sha.of (I ++ m) = H := ⟨_, rfl⟩
  have hHl : Len H 32 := by rw [← hH]; exact Len.of (Sha.of_len _)
  have hTO : Sha.of (O ++ H) = T := by rw [← hT, ← hH, ← hI, ← hO, ← hK]; rfl
  have hsh1 : ∀ w v, Bytes w v (I ++ m) → Calls Try.prog 19 #[v] w fun e w' => e = .returned (.agg (H.map B8).toArray) ∧ Below w.heap.size w w' := fun w v h => by
    rw [← hH]
    exact ref02_Of w v _ h (by rw [List.length_append, hIl.eq]; omega)
  have hsh2 : ∀ w v, Bytes w v (O ++ H) → Calls Try.prog 19 #[v] w fun e w' => e = .returned (.agg (T.map B8).toArray) ∧ Below w.heap.size w w' := fun w v h => by
    rw [← hTO]
    exact ref02_Of w v _ h (by rw [List.length_append, hOl.eq, hHl.eq]; omega)
  have hov : ∀ w v x R, Mac.over K x = R → Bytes w v K → Calls Try.prog 70 #[v, B8 x] w fun e w' => ∃ g cap, e = .returned (.slice (some ⟨g, 0, none⟩) 64 cap) ∧ cap ≤ maxLen ∧ Mem [] w w' [⟨some g, 5, R.map B8, cap⟩] := fun w v x R hR h => by
    have := ref03_over w v K h x (by rw [hKl.eq]; omega) R hR
    rwa [hKl.eq] at this
  have hblk : ∀ w, Bytes w v1 key → _ := fun w h => ref03_block w v1 key h h1 K hK
  have hov1 : ∀ w v, Bytes w v K → _ := fun w v h => hov w v 0x36 I hI h
  have hov2 : ∀ w v, Bytes w v K → _ := fun w v h => hov w v 0x5C O hO h
  clear hT hK hI hO hH hTO hov
  have hM := Mem.start w0
  have hmf : ∃ ao cap, v2 = .slice ao m.length cap := by
    obtain ⟨ao, cap, h, -⟩ := id hv2
    exact ⟨ao, cap, h⟩
  obtain ⟨ao2, cap2, rfl⟩ := hmf
  have hml : Len m m.length := Len.of rfl
  have hIm : Len (I ++ m) (64 + m.length) := Len.of (by rw [List.length_append, hIl.eq])
  have hOH : Len (O ++ H) 96 := Len.of (by rw [List.length_append, hOl.eq, hHl.eq])
  go_enter Try.func30, Try.ntmps30
  go_wp2_with (first | ((first | ((with_reducible refine gL_alloc (dst := some 4) hM ?_); refine ⟨_, _, (zr_of rfl), ?_⟩) | ((with_reducible refine gL_box (dst := some 4) hM ?_); refine ⟨_, _, _, rfl, rfl, (by first | assumption | exact Len.map (by assumption) _ | rfl | exact Len.map (by rfl) _ | exact Len.of (by simp; done)), ?_⟩)); intro g4 _ hM2; clear hM; have hM := hM2; clear hM2) | (go_at_call 69; have hvw := hM.bytes0 hv1; (with_reducible refine (hblk _ hvw).mono ?_); clear hvw; rintro _ _ ⟨gk, capk, rfl, hck, hM3⟩; replace hM := hM.addNew hM3.done (hM3.holds _ (.head _)) (hM3.mem_new (.head _)); clear hM3))
  have hvk : Bytes _ (.slice (some ⟨gk, 0, none⟩) 64 capk) K := hM.whole (ob := some gk) (.head _) hKl (by simpa [maxLen] using hck)
  refine (hov1 _ _ hvk).mono ?_
  rintro _ w3 ⟨gi, capi, rfl, hci, hM3⟩
  replace hM := hM.addNew hM3.done (hM3.holds _ (.head _)) (hM3.mem_new (.head _))
  clear hM3 hvk
  go_wp2_with (first | ((with_reducible refine gL_append_B hM ?_); refine ⟨_, _, some gi, 64, capi, 5, I, m, m.length, fun ob' cap' => [⟨ob', 5, (I ++ m).map B8, cap'⟩, _, _], rfl, rfl, rfl, (us_of rfl), (el_of rfl), (hM.bytes0 hv2).src, fun _ _ => .here _ _ _, hIl, hml, hci, by omega, ?_⟩; intro ob6 cap6 _ hM2 hc1 hc2; clear hM; have hM := hM2; clear hM2; (obtain ⟨g6, hg6⟩ := hM.some_of (.head _) (hIm.map B8) (by omega)); subst hg6))
  have hvi : Bytes _ (.slice (some ⟨g6, 0, none⟩) (64 + m.length) cap6) (I ++ m) := hM.whole (ob := some g6) (.head _) hIm (by simpa [maxLen] using hc2)
  refine (hsh1 _ _ hvi).mono ?_
  rintro _ w4 ⟨rfl, B1⟩
  replace hM := hM.adds B1
  clear B1 hvi
  go_wp2_with (first | ((first | ((with_reducible refine gL_alloc (dst := some 7) hM ?_); refine ⟨_, _, (zr_of rfl), ?_⟩) | ((with_reducible refine gL_box (dst := some 7) hM ?_); refine ⟨_, _, _, rfl, rfl, (by first | assumption | exact Len.map (by assumption) _ | rfl | exact Len.map (by rfl) _ | exact Len.of (by simp; done)), ?_⟩)); intro g7 _ hM2; clear hM; have hM := hM2; clear hM2) | ((with_reducible refine gL_store hM ?_); refine ⟨_, _, _, rfl, rfl, hM.stores_all (by (repeat (first | exact .here _ _ _ | apply Has.there)); done) (ag_of rfl) (hHl.map _) (by rfl) B8_one, ?_⟩; intro w8 hM2; clear hM; have hM := hM2; clear hM2))
  try simp only [Act.put, List.setIfInBounds_toArray, List.set_cons_succ, List.set_cons_zero]
  refine wp_region_tail 3 (by decide) (fun c vals => ⟨#[c 0, c 1, c 2, c 3, c 4, (Value.slice (some ⟨gk, 0, none⟩) 64 capk : Value), c 6, (Value.pointer (some ⟨g7, 0, none⟩) : Value), c 8, c 9, c 10, c 11, c 12, c 13, c 14, c 15, c 16, vals 0, vals 1, vals 2, c 20, c 21, c 22], []⟩) (fun t => [_, _, _, _, _, undef, _, undef, _, _, _, _, _, _, _, _, _, undef, undef, undef, _, _, _].getD t undef) (fun i => [_, _, _].getD i undef) (by kernel_rfl)
    [[], [0], [], [0, 1, 2], [0, 1, 2, 3]] (by kernel_rfl) (by kernel_rfl) (fun _ => True) trivial
    [fun x _ => x = (Value.slice (some ⟨gk, 0, none⟩) 64 capk : Value),
     fun (xx : Value) (ww : World) => ∃ g cap, xx = Value.slice (some ⟨g, 0, none⟩) 64 cap ∧ cap ≤ maxLen ∧ w8.heap.size ≤ g ∧ (Blk.mk (some g) 5 (O.map B8) cap).holds ww,
     fun x _ => x = (Value.slice (some ⟨g7, 0, none⟩) 32 32 : Value)]
    ⟨fun _ _ _ h _ => h, fun _ _ _ ⟨g, cap, h1, h2, h3, h4⟩ hb => ⟨g, cap, h1, h2, h3, h4.adds hb⟩, fun _ _ _ h _ => h, trivial⟩ []
    ⟨?_, ?_, ?_, trivial⟩ ?_
  · refine showA_op 0 (by intro _ _ _; kernel_rfl) rfl rfl (fun c vals w hC hD => ?_)
    clear hD
    refine makes1 (x := .tmp 5) (X := Value.slice (some ⟨gk, 0, none⟩) 64 capk) (by kernel_rfl : _ = (Value.slice (some ⟨gk, 0, none⟩) 64 capk : Value)) (fun ρ rc rf q5 => ?_)
    exact makes_move (.inl rfl) q5 ⟨Adds.refl _, rfl⟩
  · refine showA_op 1 (by intro _ _ _; kernel_rfl) rfl rfl (fun c vals w hC hD => ?_)
    have h0 : vals 0 = .slice (some ⟨gk, 0, none⟩) 64 capk := hD 0 rfl
    clear hD
    refine makes1 (x := .tmp 17) (X := Value.slice (some ⟨gk, 0, none⟩) 64 capk) ((by kernel_rfl : _ = vals 0).trans h0) (fun ρ rc rf q17 => ?_)
    clear h0
    refine makes_call (hov2 _ (.slice (some ⟨gk, 0, none⟩) 64 capk) ((hM.adds hC).whole (ob := some gk) (.tail _ (.tail _ (.head _))) hKl (by simpa [maxLen] using hck))) ?_ (by rintro e w' ⟨g, cap, rfl, hcc, hM3⟩; exact ⟨_, rfl, hM3.done, g, cap, rfl, hcc, Nat.le_trans hC.size (hM3.mem_new (.head _)), hM3.holds _ (.head _)⟩)
    go_simp
    all_goals first | done | rfl | exact lit8 _ (by decide)
  · refine showA_op 2 (by intro _ _ _; kernel_rfl) rfl rfl (fun c vals w hC hD => ?_)
    clear hD
    refine makes1 (x := .tmp 7) (X := Value.pointer (some ⟨g7, 0, none⟩)) (by kernel_rfl : _ = (Value.pointer (some ⟨g7, 0, none⟩) : Value)) (fun ρ rc rf q7 => ?_)
    exact makes_slice (slice_arr_all (t := 24) (ua_of rfl) (by exact elOne rfl)) rfl q7 rfl rfl rfl ⟨Adds.refl _, rfl⟩
  intro vals w' hC hΦ hne
  have h1 : (fun (xx : Value) (ww : World) => ∃ g cap, xx = Value.slice (some ⟨g, 0, none⟩) 64 cap ∧ cap ≤ maxLen ∧ w8.heap.size ≤ g ∧ (Blk.mk (some g) 5 (O.map B8) cap).holds ww) (vals 1) w' := hΦ 1 (by decide)
  have h2 : vals 2 = .slice (some ⟨g7, 0, none⟩) 32 32 := hΦ 2 (by decide)
  clear hΦ hne
  simp only [List.getD_eq_getElem?_getD, List.getElem?_cons_zero, List.getElem?_cons_succ, Option.getD_some, List.drop_succ_cons, List.drop_zero]
  simp only [h2]
  clear h2
  try simp only [tuple_undef]
  obtain ⟨go, capo, eo, hco, lo, hho⟩ := h1
  simp only [eo]
  clear eo
  replace hM := hM.addNew hC hho lo
  clear hC hho lo
  go_wp2_with (first | ((with_reducible refine gL_append_B hM ?_); refine ⟨_, _, some go, 64, capo, 5, O, H, 32, fun ob' cap' => ⟨ob', 5, (O ++ H).map B8, cap'⟩ :: _, rfl, rfl, rfl, (us_of rfl), (el_of rfl), hM.src (.tail _ (.head _)), fun _ _ => .here _ _ _, hOl, hHl, hco, by omega, ?_⟩; intro ob9 cap9 _ hM2 hd1 hd2; clear hM; have hM := hM2; clear hM2; (obtain ⟨g9, hg9⟩ := hM.some_of (.head _) (hOH.map B8) (by omega)); subst hg9))
  have hvo : Bytes _ (.slice (some ⟨g9, 0, none⟩) 96 cap9) (O ++ H) := hM.whole (ob := some g9) (.head _) hOH (by simpa [maxLen] using hd2)
  refine (hsh2 _ _ hvo).mono ?_
  rintro _ w9 ⟨rfl, B1⟩
  replace hM := hM.adds B1
  clear B1 hvo
  go_wp2_with (first | ((with_reducible refine gL_store hM ?_); refine ⟨_, _, _, rfl, rfl, hM.stores_all (by (repeat (first | exact .here _ _ _ | apply Has.there)); done) (ag_of rfl) (hTl.map _) (by rfl) B8_one, ?_⟩; intro _ hM2; clear hM; have hM := hM2; clear hM2))
  exact hM.ret_cell rfl rfl rfl (by (repeat (first | exact .head _ | apply List.Mem.tail)); done) (ag_of rfl) (hTl.map _) ⟨rfl, hM.done⟩
end Go.Proofs.Ytejmbkljnhnklaa
