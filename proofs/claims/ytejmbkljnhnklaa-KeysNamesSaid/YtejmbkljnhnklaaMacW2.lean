/-
  The walks of mac's Sum, Of, Derive.
-/
import Derived.Test.YtejmbkljnhnklaaMacW
namespace Go.Proofs.Ytejmbkljnhnklaa
open Go.RowKit Go.PK

theorem mac_outer {w : World} {gm gd : Nat} {O : List UInt8} (hR : Row w gm 49 (macC gd O)) (hO : O.length = 64) : Bytes w (.slice (some ⟨gm, 1, none⟩) 64 64) O := by
  refine ⟨some ⟨gm, 1, none⟩, 64, by rw [hO], by omega, by decide, (fun h => by cases h), fun j hj => ⟨gm, 1, rfl, hR.lt, ?_⟩⟩
  rw [hR.cell?, macC, Nat.add_comm, List.getElem?_cons_succ]
  exact get_map 0 hj
theorem mac_ptr {w : World} {gm gd : Nat} {O : List UInt8} (hR : Row w gm 49 (macC gd O)) : Loads Try.prog w 29 ⟨gm, 0, none⟩ (.pointer (some ⟨gd, 0, none⟩)) :=
  loads_cell (by rw [hR.cell?]; rfl) (on_of rfl)
set_option maxRecDepth 100000 in
set_option maxHeartbeats 4000000 in
theorem mac_Sum (w0 : World) (gm gd : Nat) (O : List UInt8) (C : List Value) (m : List UInt8) (hRm : Row w0 gm 49 (macC gd O)) (hO : O.length = 64) (hRd : Row w0 gd 118 C) (hC : DigAt C m) (hlen : m.length ≤ 2305843009213693952) :
    Calls Try.prog 29 #[.pointer (some ⟨gm, 0, none⟩)] w0 fun e w' => e = .returned (.agg ((Sha.of (O ++ Sha.of m)).map B8).toArray) ∧ Below w0.heap.size w0 w' := by
  obtain ⟨H1, hH1⟩ : ∃ H1, H1 = Sha.of m := ⟨_, rfl⟩
  have hl1 : Len H1 32 := by rw [hH1]; exact Len.of (Sha.of_len m)
  rw [← hH1]
  have HH1 : ∀ _ : Unit, H1 = Sha.of m := fun _ => hH1
  clear hH1
  obtain ⟨H2, hH2⟩ : ∃ H2, H2 = Sha.of (O ++ H1) := ⟨_, rfl⟩
  have hl2 : Len H2 32 := by rw [hH2]; exact Len.of (Sha.of_len _)
  rw [← hH2]
  have HH2 : ∀ _ : Unit, H2 = Sha.of (O ++ H1) := fun _ => hH2
  clear hH2
  have hM := Mem.start w0
  have hbO := mac_outer hRm hO
  go_enter Try.func29, Try.ntmps29
  go_wp2_with (first | ((first | ((with_reducible refine gL_alloc (dst := some 2) hM ?_); refine ⟨_, _, (zr_of rfl), ?_⟩) | ((with_reducible refine gL_box (dst := some 2) hM ?_); refine ⟨_, _, _, rfl, rfl, (by first | assumption | exact Len.map (by assumption) _ | rfl | exact Len.map (by rfl) _ | exact Len.of (by simp; done)), ?_⟩)); intro g2 _ hM2; clear hM; have hM := hM2; clear hM2) | ((with_reducible refine gL_load ?_); refine ⟨_, _, rfl, mac_ptr (hM.row hRm (by simp)), ?_⟩))
  have hRw := hM.row hRd (by simp)
  refine (sha_Sum _ gd C m hRw hC hlen).mono ?_
  rintro _ w1 ⟨rfl, hB⟩
  replace hM := hM.adds hB
  clear hB hRw
  rw [← HH1 ()]
  go_wp2_with (first | ((first | ((with_reducible refine gL_alloc (dst := some 3) hM ?_); refine ⟨_, _, (zr_of rfl), ?_⟩) | ((with_reducible refine gL_box (dst := some 3) hM ?_); refine ⟨_, _, _, rfl, rfl, (by first | assumption | exact Len.map (by assumption) _ | rfl | exact Len.map (by rfl) _ | exact Len.of (by simp; done)), ?_⟩)); intro g3 _ hM2; clear hM; have hM := hM2; clear hM2) | ((with_reducible refine gL_store hM ?_); refine ⟨_, _, _, rfl, rfl, hM.stores_all (by (repeat (first | exact .here _ _ _ | apply Has.there)); done) (ag_of rfl) (hl1.map _) (by rfl) B8_one, ?_⟩; intro _ hM2; clear hM; have hM := hM2; clear hM2))
  refine (sha_New _).mono ?_
  rintro _ w2 ⟨gs, rfl, hM3⟩
  replace hM := hM.addNew hM3.done (hM3.holds _ (.head _)) (hM3.mem_new (.head _))
  clear hM3
  have hns := hM.mem_new (.head _)
  go_wp2_with (first | ((with_reducible refine gL_slice ?_); refine ⟨_, slice_arr_all (ua_of rfl) (by exact elOne rfl), ?_⟩))
  have hRw := hM.rowN (.head _) rfl
  refine (sha_Write _ gs _ [] hRw DigAt.start _ O (hM.bytes0 hbO) (Off.old hbO hns) (by simp; omega)).mono ?_
  rintro _ w3 ⟨rfl, C3, hT, hR3, hC3⟩
  rw [List.nil_append] at hC3
  replace hM := hM.calls (.here _ _ _) hT hR3 hC3.len
  clear hT hR3 hRw
  go_wp2_with (first | ((with_reducible refine gL_slice ?_); refine ⟨_, slice_arr_all (ua_of rfl) (by exact elOne rfl), ?_⟩))
  have hRw := hM.rowN (.head _) hC3.len
  have hBs : Bytes w3 (.slice (some ⟨g3, 0, none⟩) 32 32) H1 := hM.whole (ob := some g3) (.tail _ (.head _)) hl1 (by decide)
  have hne : g3 ≠ gs := by
    have := hM.nodup
    simp at this
    omega
  refine (sha_Write _ gs _ O hRw hC3 _ H1 hBs (fun _ a n' cap' he => by cases he; exact hne) (by have := hl1.eq; omega)).mono ?_
  rintro _ w4 ⟨rfl, C4, hT, hR4, hC4⟩
  replace hM := hM.calls (.here _ _ _) hT hR4 hC4.len
  clear hT hR4 hRw hBs
  go_wp2_with fail
  have hRw := hM.rowN (.head _) hC4.len
  refine (sha_Sum _ gs C4 _ hRw hC4 (by have := hl1.eq; simp; omega)).mono ?_
  rintro _ w5 ⟨rfl, hB⟩
  replace hM := hM.adds hB
  clear hB hRw
  rw [← HH2 ()]
  go_wp2_with (first | ((with_reducible refine gL_store hM ?_); refine ⟨_, _, _, rfl, rfl, hM.stores_all (by (repeat (first | exact .here _ _ _ | apply Has.there)); done) (ag_of rfl) (hl2.map _) (by rfl) B8_one, ?_⟩; intro _ hM2; clear hM; have hM := hM2; clear hM2))
  exact hM.ret_cell rfl rfl rfl (.tail _ (.tail _ (.head _))) (ag_of rfl) (hl2.map _) ⟨rfl, hM.done⟩
set_option maxRecDepth 100000 in
set_option maxHeartbeats 4000000 in
theorem mac_Of (w0 : World) (v1 v2 : Value) (key m : List UInt8) (hv1 : Bytes w0 v1 key) (hv2 : Bytes w0 v2 m) (h1 : key.length ≤ 140737488355000) (h2 : m.length ≤ 1152921504606846976) :
    Calls Try.prog 31 #[v1, v2] w0 fun e w' => e = .returned (.agg ((Mac.tag key m).map B8).toArray) ∧ Below w0.heap.size w0 w' := by
  have hl2 : Len (Mac.tag key m) 32 := Len.of (Mac.tag_len _ _)
  have HT : ∀ _ : Unit, Mac.tag key m = Sha.of (Mac.over (Mac.block key) 0x5C ++ Sha.of (Mac.over (Mac.block key) 0x36 ++ m)) := fun _ => rfl
  have hOl : (Mac.over (Mac.block key) 0x5C).length = 64 := by rw [Mac.over_len]; exact Mac.block_len _
  have hIl : (Mac.over (Mac.block key) 0x36).length = 64 := by rw [Mac.over_len]; exact Mac.block_len _
  have hnew : ∀ w, Bytes w v1 key → _ := fun w h => mac_New w v1 key h h1
  generalize Mac.over (Mac.block key) 0x5C = O at *
  generalize Mac.over (Mac.block key) 0x36 = I at *
  generalize Mac.tag key m = T at *
  have hM := Mem.start w0
  go_enter Try.func31, Try.ntmps31
  go_wp2_with (first | ((first | ((with_reducible refine gL_alloc (dst := some 4) hM ?_); refine ⟨_, _, (zr_of rfl), ?_⟩) | ((with_reducible refine gL_box (dst := some 4) hM ?_); refine ⟨_, _, _, rfl, rfl, (by first | assumption | exact Len.map (by assumption) _ | rfl | exact Len.map (by rfl) _ | exact Len.of (by simp; done)), ?_⟩)); intro g4 _ hM2; clear hM; have hM := hM2; clear hM2))
  refine (hnew _ (hM.bytes0 hv1)).mono ?_
  rintro _ w1 ⟨gm, gd, C, rfl, hM3, hC⟩
  replace hM := hM.addNew2 hM3.done (hM3.holds _ (.head _)) (hM3.holds _ (.tail _ (.head _))) (hM3.mem_new (.head _)) (hM3.mem_new (.tail _ (.head _))) (by have := hM3.nodup; simp at this; omega)
  clear hM3
  have hnd := hM.mem_new (.tail _ (.head _))
  go_wp2_with (first | ((with_reducible refine gL_load ?_); refine ⟨_, _, rfl, hM.loads_one (.head _) (on_of rfl) (rfl : (macC gd O)[0]? = some (.pointer (some ⟨gd, 0, none⟩))), ?_⟩))
  have hRw := hM.rowN (.tail _ (.head _)) hC.len
  refine (sha_Write _ gd C I hRw hC v2 m (hM.bytes0 hv2) (Off.old hv2 hnd) (by omega)).mono ?_
  rintro _ w2 ⟨rfl, C2, hT, hR2, hC2⟩
  replace hM := hM.calls (.there _ (.here _ _ _)) hT hR2 hC2.len
  clear hT hR2 hRw
  go_wp2_with fail
  have hRm := hM.rowN (.head _) (macC_len hOl)
  have hRd := hM.rowN (.tail _ (.head _)) hC2.len
  refine (mac_Sum _ gm gd O C2 _ hRm hOl hRd hC2 (by simp; omega)).mono ?_
  rintro _ w3 ⟨rfl, hB⟩
  replace hM := hM.adds hB
  clear hB hRm hRd
  rw [← HT ()]
  go_wp2_with (first | ((with_reducible refine gL_store hM ?_); refine ⟨_, _, _, rfl, rfl, hM.stores_all (by (repeat (first | exact .here _ _ _ | apply Has.there)); done) (ag_of rfl) (hl2.map _) (by rfl) B8_one, ?_⟩; intro _ hM2; clear hM; have hM := hM2; clear hM2))
  exact hM.ret_cell rfl rfl rfl (.tail _ (.tail _ (.head _))) (ag_of rfl) (hl2.map _) ⟨rfl, hM.done⟩
end Go.Proofs.Ytejmbkljnhnklaa
