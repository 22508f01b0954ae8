/-
  The walks of Body, of the reference's Body and Same.
-/
import Derived.Test.YtejmbkljnhnklaaDoorImgQ
import Derived.Test.YtejmbkljnhnklaaDoorShaE
namespace Go.Proofs.YtejmbkljnhnklaaDoor
open Go.RowKit Go.PK
theorem str_of {w : World} {v : Value} {l : List UInt8} (h : Bytes w v l) : (convert 23 9 v).run Tryd.prog w = .ok (.string ⟨l.toArray⟩) w :=
  run_str 23 9 5 Tryd.underlying23 Tryd.underlying5 Tryd.underlying9 h
theorem body_short {b : List UInt8} {nb : Nat} (h : Len b nb) (k : nb < 32) : Img.body b = [] := by rw [Img.body, if_pos (by rw [h.eq]; exact k)]
theorem body_long {b : List UInt8} {nb : Nat} (h : Len b nb) (k : ¬ nb < 32) : Img.body b = b.take (nb - 32) := by rw [Img.body, if_neg (by rw [h.eq]; exact k), h.eq]

set_option maxRecDepth 100000 in
set_option maxHeartbeats 4000000 in
theorem image_Body (w0 : World) (v : Value) (b : List UInt8) (hv : Bytes w0 v b) (hbl : b.length ≤ 140737488351232) :
    Calls Tryd.prog 17 #[v] w0 fun e w' => ∃ ob m cap, e = .returned (sl ob m cap) ∧ Len (Img.body b) m ∧ cap ≤ maxLen ∧ Mem [] w0 w' [⟨ob, 5, (Img.body b).map B8, cap⟩] := by
  have hM := Mem.start w0
  obtain ⟨nb, hnb⟩ : ∃ n, b.length = n := ⟨_, rfl⟩
  obtain ⟨ao, cap0, rfl, g1, g2, -⟩ := id hv
  rw [hnb] at hbl g1 hv ⊢
  replace hnb : Len b nb := Len.of hnb
  by_cases hs : nb < 32
  · have hsi : (nb : Int) < 32 := by omega
    rw [body_short hnb hs]
    clear hnb hv
    go_enter Tryd.func17, Tryd.ntmps17
    go_wp2_with fail
    go_ret
    exact ⟨none, 0, 0, rfl, rfl, by decide, hM.addNil 5⟩
  · have hsi : ¬ (nb : Int) < 32 := by omega
    rw [body_long hnb hs]
    obtain ⟨K, hK⟩ : ∃ K, K = nb - 32 := ⟨_, rfl⟩
    have he : (nb : Int) - 32 = (K : Int) := by omega
    have hKn : K ≤ nb := by omega
    rw [← hK]
    have hkl : Len (b.take K) K := Len.of (by rw [List.length_take, hnb.eq]; omega)
    obtain ⟨hS, hB⟩ := bytes_upto (P := Tryd.prog) hv (t := 23) (us_of rfl) (by exact elOne rfl) hKn
    generalize b.take K = R at *
    clear hK hs hv hnb
    replace hM := hM.addNil 5
    have hx := hB.src
    rw [hkl.eq] at hx
    go_enter Tryd.func17, Tryd.ntmps17
    go_wp2_with (first
      | ((with_reducible refine gL_slice (dst := some 10) ?_); refine ⟨_, hS, ?_⟩)
      | ((with_reducible refine gL_append_B (dst := some 11) hM ?_); refine ⟨_, _, none, 0, 0, 5, [], R, K, _, rfl, rfl, rfl, (us_of rfl), (el_of rfl), hx, (fun _ _ => .here _ _ _), rfl, hkl, (by decide), (by omega), ?_⟩; clear hx; intro ob1 cap1 _ hM2 h11 h12; rw [Nat.zero_add] at h11 ⊢; rw [List.nil_append] at hM2; clear hM; have hM := hM2; clear hM2))
    go_ret
    exact ⟨ob1, K, cap1, rfl, hkl, h12, hM⟩

set_option maxRecDepth 100000 in
set_option maxHeartbeats 4000000 in
theorem ref11_Body (w0 : World) (v : Value) (b : List UInt8) (hv : Bytes w0 v b) (hbl : b.length ≤ 140737488351232) :
    Calls Tryd.prog 18 #[v] w0 fun e w' => ∃ ob m cap, e = .returned (sl ob m cap) ∧ Len (Img.body b) m ∧ cap ≤ maxLen ∧ Mem [] w0 w' [⟨ob, 5, (Img.body b).map B8, cap⟩] := by
  have hM := Mem.start w0
  obtain ⟨nb, hnb⟩ : ∃ n, b.length = n := ⟨_, rfl⟩
  obtain ⟨ao, cap0, rfl, g1, g2, -⟩ := id hv
  rw [hnb] at hbl g1 hv ⊢
  replace hnb : Len b nb := Len.of hnb
  by_cases hs : nb < 32
  · have hsi : (nb : Int) < 32 := by omega
    rw [body_short hnb hs]
    clear hnb hv
    go_enter Tryd.func18, Tryd.ntmps18
    go_wp2_with fail
    go_ret
    exact ⟨none, 0, 0, rfl, rfl, by decide, hM.addNil 5⟩
  · have hsi : ¬ (nb : Int) < 32 := by omega
    rw [body_long hnb hs]
    obtain ⟨K, hK⟩ : ∃ K, K = nb - 32 := ⟨_, rfl⟩
    have he : (nb : Int) - 32 = (K : Int) := by omega
    have hKn : K ≤ nb := by omega
    rw [← hK]
    have hkl : Len (b.take K) K := Len.of (by rw [List.length_take, hnb.eq]; omega)
    obtain ⟨hS, hB⟩ := bytes_upto (P := Tryd.prog) hv (t := 23) (us_of rfl) (by exact elOne rfl) hKn
    generalize b.take K = R at *
    clear hK hs hv hnb
    go_enter Tryd.func18, Tryd.ntmps18
    go_wp2_with (first
      | ((with_reducible refine gL_buildEmpty (dst := some 7) hM ?_); refine ⟨_, _, _, (us_of rfl), (el_of rfl), ?_⟩; intro g73 _ hM2; clear hM; have hM := hM2; clear hM2)
      | ((with_reducible refine gL_slice (dst := some 13) ?_); refine ⟨_, hS, ?_⟩)
      | ((with_reducible refine gL_append_B (dst := some 14) hM ?_); have hx := (hM.bytes0 hB).src; rw [hkl.eq] at hx; refine ⟨_, _, some g73, 0, 0, 5, [], R, K, _, rfl, rfl, rfl, (us_of rfl), (el_of rfl), hx, (fun _ _ => .here _ _ _), rfl, hkl, (by decide), (by omega), ?_⟩; clear hx; intro ob1 cap1 _ hM2 h11 h12; rw [Nat.zero_add] at h11 ⊢; rw [List.nil_append] at hM2; clear hM; have hM := hM2; clear hM2))
    go_ret
    exact ⟨ob1, K, cap1, rfl, hkl, h12, hM⟩

set_option maxRecDepth 100000 in
set_option maxHeartbeats 4000000 in
theorem ref11_Same (w0 : World) (x : Img.Im) (p q : Value) (hp : Bytes w0 p x.pay) (hq : Bytes w0 q x.pay) (hT : Len x.tag 32) :
    Calls Tryd.prog 16 #[.agg (imC x p).toArray, .agg (imC x q).toArray] w0 fun e w' => e = .returned (.bool true) ∧ Below w0.heap.size w0 w' := by
  have hM := Mem.start w0
  have hC := imC_len hT p
  have hD := imC_len hT q
  obtain ⟨s, y, v, B, T⟩ := x
  simp only at hp hq hT
  unfold imC at hC hD ⊢
  simp only at hC hD ⊢
  have htp := fun (w : World) (L : List Blk) (g : Nat) (p : Value) (hM : Mem [] w0 w L) (h : ⟨some g, 27, ([.int .i64 s, .int .i64 y, .int .i64 v, p] : List Value) ++ T.map B8, 36⟩ ∈ L) => hM.loads_last (P := Tryd.prog) (ty := 25) (off := 4) h (ag_of rfl) rfl (hT.map B8)
  go_enter Tryd.func16, Tryd.ntmps16
  go_wp2_with (first
    | ((with_reducible refine gL_box (dst := some 2) hM ?_); refine ⟨_, _, _, rfl, rfl, hC, ?_⟩; intro gx _ hM2; clear hM; have hM := hM2; clear hM2)
    | ((with_reducible refine gL_box (dst := some 3) hM ?_); refine ⟨_, _, _, rfl, rfl, hD, ?_⟩; intro gy wB hM2; clear hM; have hM := hM2; clear hM2; have s1 := str_of (hM.bytes0 hp); have s2 := str_of (hM.bytes0 hq))
    | ((with_reducible refine gG_load (dst := some 35) ?_ ?_); (exact wanted_of rfl rfl rfl rfl rfl); refine ⟨_, _, rfl, htp _ _ _ _ hM (.tail _ (.head _)), ?_⟩)
    | ((with_reducible refine gG_load (dst := some 37) ?_ ?_); (exact wanted_of rfl rfl rfl rfl rfl); refine ⟨_, _, rfl, htp _ _ _ _ hM (.head _), ?_⟩)
    | go_skip | ((first | (with_reducible refine gL_load ?_) | ((with_reducible refine gG_load ?_ ?_); (exact wanted_of rfl rfl rfl rfl rfl))); refine ⟨_, _, rfl, (by (first | (assumption) | (exact hM.loads_B8 (by (repeat (first | exact .head _ | apply List.Mem.tail)); done) (on_of rfl) (by first | omega | (simp only [Len] at *; omega) | (simp; omega))) | (exact hM.loads_all (by (repeat (first | exact .head _ | apply List.Mem.tail)); done) (ag_of rfl) (by first | assumption | exact Len.map (by assumption) _ | rfl | exact Len.map (by rfl) _ | exact Len.of (by simp; done))) | (exact hM.loads_one (by (repeat (first | exact .head _ | apply List.Mem.tail)); done) (on_of rfl) rfl) | (exact hM.loads_W32 (by (repeat (first | exact .head _ | apply List.Mem.tail)); done) (on_of rfl) (by first | omega | (simp only [Len] at *; omega) | (simp; omega))) | (exact loads_cell (by assumption) (on_of rfl)))), ?_⟩) | ((with_reducible refine gL_store hM ?_); refine ⟨_, _, _, rfl, rfl, (by (first | (exact hM.stores_B8 (by first | exact (rfl : B8 _ = B8 _) | exact lit8 _ (by decide)) (by (repeat (first | exact .here _ _ _ | apply Has.there)); done) (on_of rfl) (by first | omega | (simp only [Len] at *; omega) | (simp; omega))) | (exact hM.stores_all (by (repeat (first | exact .here _ _ _ | apply Has.there)); done) (ag_of rfl) (by first | assumption | exact Len.map (by assumption) _ | rfl | exact Len.map (by rfl) _ | exact Len.of (by simp; done)) (by first | assumption | exact Len.map (by assumption) _ | rfl | exact Len.map (by rfl) _ | exact Len.of (by simp; done)) (by first | exact B8_one | exact W32_one | exact one_of_all rfl)) | (exact hM.stores_W32 rfl (by (repeat (first | exact .here _ _ _ | apply Has.there)); done) (on_of rfl) (by first | omega | (simp only [Len] at *; omega) | (simp; omega))) | (exact hM.stores_one (by (repeat (first | exact .here _ _ _ | apply Has.there)); done) (on_of rfl) (by first | omega | (simp only [Len] at *; omega) | (simp; omega)) rfl rfl))), ?_⟩; intro _ hM2; clear hM; have hM := hM2; clear hM2) | ((with_reducible refine gL_alloc hM ?_); refine ⟨_, _, (zr_of rfl), ?_⟩; intro _ _ hM2; clear hM; have hM := hM2; clear hM2) | ((with_reducible refine gL_box hM ?_); refine ⟨_, _, _, rfl, rfl, (by first | assumption | exact Len.map (by assumption) _ | rfl | exact Len.map (by rfl) _ | exact Len.of (by simp; done)), ?_⟩; intro _ _ hM2; clear hM; have hM := hM2; clear hM2) | ((with_reducible refine gL_build0 ?_); refine ⟨_, _, _, _, _, _, (zr_of rfl), (ua_of rfl), (ag_of rfl), (el_of rfl), ?_⟩) | ((with_reducible refine gL_buildBytes hM ?_); refine ⟨_, _, (us_of rfl), (el_of rfl), (by decide), (by decide), rfl, (by (repeat (first | exact EvB.nil | apply EvB.cons rfl (by first | exact (rfl : B8 _ = B8 _) | exact lit8 _ (by decide)))); done), ?_⟩; intro _ _ hM2; clear hM; have hM := hM2; clear hM2) | ((with_reducible refine gL_append_B hM ?_); refine ⟨_, _, _, _, _, _, _, _, _, _, rfl, rfl, (by first | exact (rfl : Value.slice (some ⟨_, 0, none⟩) _ _ = sl (some _) _ _) | exact (rfl : Value.slice none _ _ = sl none _ _) | rfl), (us_of rfl), (el_of rfl), (by first | exact hM.src (by (repeat (first | exact .head _ | apply List.Mem.tail)); done) | exact (hM.bytes0 (by assumption)).src), (fun _ _ => by (repeat (first | exact .here _ _ _ | apply Swap.there)); done), (by first | assumption | exact Len.map (by assumption) _ | rfl | exact Len.map (by rfl) _ | exact Len.of (by simp; done)), (by first | assumption | exact Len.map (by assumption) _ | rfl | exact Len.map (by rfl) _ | exact Len.of (by simp; done)), (by first | assumption | (simp [maxLen]; done) | omega | (simp [maxLen]; omega)), (by first | omega | (simp only [Len] at *; omega) | (simp; omega)), ?_⟩; intro _ _ _ hM2 _ _; clear hM; have hM := hM2; clear hM2) | ((first | (with_reducible refine gL_field ?_) | ((with_reducible refine gG_field ?_ ?_); (exact wanted_of rfl rfl rfl rfl rfl))); refine ⟨_, _, rfl, (by (first | (exact field_one (fb_of rfl) rfl) | (exact field_agg (fa_of rfl) rfl))), ?_⟩) | ((first | (with_reducible refine gL_eql ?_) | (with_reducible refine gL_neq ?_) | ((with_reducible refine gG_eql ?_ ?_); (exact wanted_of rfl rfl rfl rfl rfl)) | ((with_reducible refine gG_neq ?_ ?_); (exact wanted_of rfl rfl rfl rfl rfl))); refine ⟨_, _, _, rfl, rfl, (by first | exact hash_self _ hT), ?_⟩))
  go_ret
  exact ⟨rfl, hM.done⟩
end Go.Proofs.YtejmbkljnhnklaaDoor
