/-
  The walks of Make, and of the reference's Cover, Tagged and Make.
-/
import Derived.Test.YtejmbkljnhnklaaDoorImgA
import Derived.Test.YtejmbkljnhnklaaDoorMacW2
import Derived.Test.YtejmbkljnhnklaaDoorMacR2
namespace Go.PK
open Go.RowKit
/-- what a call made, beside what is owned -/
theorem Mem.addMem {G : List Nat} {w0 w w' : World} {L L' : List Blk} (h : Mem G w0 w L) (k : Mem [] w w' L') : Mem G w0 w' (L' ++ L) := by
  have h2 := h.adds k.done
  refine ⟨h2.touch, fun b hb => ?_, fun b hb g hg => ?_, ?_⟩
  · rcases List.mem_append.1 hb with hb | hb
    · exact k.holds b hb
    · exact h2.holds b hb
  · rcases List.mem_append.1 hb with hb | hb
    · exact .inr (Nat.le_trans h.touch.size ((k.own b hb g hg).resolve_left (by simp)))
    · exact h.own b hb g hg
  · rw [List.filterMap_append, List.nodup_append]
    refine ⟨k.nodup, h.nodup, fun a ha b hb hab => ?_⟩
    subst hab
    obtain ⟨x, hx, hxe⟩ := mem_ids.1 ha
    obtain ⟨y, hy, hye⟩ := mem_ids.1 hb
    have h3 := (k.own x hx a hxe).resolve_left (by simp)
    have h4 := (h.holds y hy).lt hye
    omega
section
variable {P : Program} {Q : Exit → Act → World → Prop} {ops : Array Oper} {rest : List Oper} {a : Act} {w : World} {G : List Nat} {w0 : World} {L : List Blk} {dst : Option Tmp} {type : TypeId} {pos : String} {after : Array Edge}
/-- make([]byte, 0, m) -/
theorem gL_make0 (hM : Mem G w0 w L) {t : TypeId} {l c : Operand} (h : ∃ (e : TypeId) (m : Nat), P.underlying t = some (.slice e) ∧ (P.info? e).map (fun i => (i.zero, i.size, i.bytes)) = some (some (B8 0), 1, 1) ∧ a.eval l = .int .i64 ((0 : Nat) : Int) ∧ a.eval c = .int .i64 (m : Int) ∧ m ≤ 281474976710656 ∧
    ∀ g w', Mem G w0 w' (⟨some g, e, ([] : List UInt8).map B8, m⟩ :: L) → wpList P ops Q rest (a.put dst (.slice (some ⟨g, 0, none⟩) 0 m)) w') :
    wpList P ops Q (Oper.mk dst (.makeSlice t l c) type pos after none :: rest) a w := by
  obtain ⟨e, m, h1, h2, h3, h4, h5, h6⟩ := h
  refine wpList_make_one rfl l c t rfl e (B8 0) 1 h1 h2 rfl 0 m h3 h4 (Nat.zero_le _) (by omega) (by omega) (h6 _ _ ?_)
  have hM2 := hM.alloc ([] ++ List.replicate m (B8 0)) e
  rw [List.nil_append, List.length_replicate] at hM2
  exact Mem.fewer (C := []) (D := List.replicate m (B8 0)) hM2
end
theorem Mem.addMem1 {G : List Nat} {w0 w w' : World} {L : List Blk} {b : Blk} (h : Mem G w0 w L) (k : Mem [] w w' [b]) : Mem G w0 w' (b :: L) := h.addMem k
end Go.PK
namespace Go.Proofs.YtejmbkljnhnklaaDoor
open Go.RowKit Go.PK

theorem ref11_four' {w0 w : World} {L : List Blk} (ob : Option Nat) (l : List UInt8) (m m4 cap : Nat) (h4 : m + 4 = m4) (hl : Len l m) (hcap : cap ≤ maxLen) (hM : Mem [] w0 w (⟨ob, 5, l.map B8, cap⟩ :: L)) (n : Nat) (hm : m ≤ 140737488355000) :
    Calls Tryd.prog 39 #[sl ob m cap, .int .i64 (n : Int)] w fun e w' => ∃ ob' cap', e = .returned (sl ob' m4 cap') ∧ cap' ≤ maxLen ∧ Mem [] w0 w' (⟨ob', 5, (l ++ Img.four n).map B8, cap'⟩ :: L) := h4 ▸ ref11_four ob l m cap hl hcap hM n hm
theorem image_four' {w0 w : World} {L : List Blk} (ob : Option Nat) (l : List UInt8) (m m4 cap : Nat) (h4 : m + 4 = m4) (hl : Len l m) (hcap : cap ≤ maxLen) (hM : Mem [] w0 w (⟨ob, 5, l.map B8, cap⟩ :: L)) (n : Nat) (hm : m ≤ 140737488355000) :
    Calls Tryd.prog 24 #[sl ob m cap, .int .i64 (n : Int)] w fun e w' => ∃ ob' cap', e = .returned (sl ob' m4 cap') ∧ m4 ≤ cap' ∧ cap' ≤ maxLen ∧ Mem [] w0 w' (⟨ob', 5, (l ++ Img.four n).map B8, cap'⟩ :: L) := h4 ▸ image_four ob l m cap hl hcap hM n hm

theorem head8 {x : Img.Im} (h : ¬ Img.Off x) : [80, 67, 85, 76, 1, UInt8.ofInt x.slot, UInt8.ofInt x.key, 0] ++ Img.four x.ver.toNat ++ Img.four x.pay.length ++ x.pay = Img.cover x := by
  unfold Img.Off at h
  rw [Img.byte_int (by omega), Img.byte_int (by omega), Img.cover, Img.head, List.append_assoc, List.append_assoc, List.append_assoc, List.append_assoc]

set_option maxRecDepth 100000 in
set_option maxHeartbeats 4000000 in
theorem ref11_Cover (w : World) (x : Img.Im) (p : Value) (hp : Bytes w p x.pay) (hT : Len x.tag 32) (hO : ¬ Img.Off x) (n : Nat) (hn : Len x.pay n) (hl : n ≤ 524240) :
    Calls Tryd.prog 26 #[.agg (imC x p).toArray] w fun e w' => ∃ ob cap, e = .returned (sl ob (16 + n) cap) ∧ cap ≤ maxLen ∧ Mem [] w w' [⟨ob, 5, (Img.cover x).map B8, cap⟩] := by
  have hM := Mem.start w
  have hC := imC_len hT p
  have h8 := head8 hO
  have hO' := hO
  unfold Img.Off at hO'
  obtain ⟨vn, hv⟩ : ∃ vn : Nat, x.ver = vn := Int.eq_ofNat_of_zero_le (by omega)
  rw [hv, Int.toNat_natCast, hn.eq] at h8
  obtain ⟨R, hR⟩ : ∃ R, R = Img.cover x := ⟨_, rfl⟩
  rw [← hR] at h8 ⊢
  obtain ⟨ao, cap, rfl, g1, g2, -⟩ := id hp
  rw [hn.eq] at g1 hC ⊢
  rw [hn.eq] at hp
  obtain ⟨B, hB⟩ : ∃ B, B = x.pay := ⟨_, rfl⟩
  rw [← hB] at hn hp h8
  have HR : ∀ _ : Unit, [80, 67, 85, 76, 1, UInt8.ofInt x.slot, UInt8.ofInt x.key, 0] ++ Img.four vn ++ Img.four n ++ B = R := fun _ => h8
  clear hR h8 hB hO hO'
  unfold imC at hC ⊢
  rw [hv] at hC ⊢
  clear hv
  generalize x.tag.map B8 = TC at *
  generalize x.slot = s at *
  generalize x.key = y at *
  have hl1 : Len ([80, 67, 85, 76, 1, UInt8.ofInt s, UInt8.ofInt y, 0] : List UInt8) 8 := rfl
  have hl2 : Len ([80, 67, 85, 76, 1, UInt8.ofInt s, UInt8.ofInt y, 0] ++ Img.four vn) 12 := rfl
  have hl3 : Len ([80, 67, 85, 76, 1, UInt8.ofInt s, UInt8.ofInt y, 0] ++ Img.four vn ++ Img.four n) 16 := rfl
  generalize hH : ([80, 67, 85, 76, 1, UInt8.ofInt s, UInt8.ofInt y, 0] : List UInt8) = H at *
  have HH : ∀ _ : Unit, ([80, 67, 85, 76, 1, UInt8.ofInt s, UInt8.ofInt y, 0] : List UInt8) = H := fun _ => hH
  clear hH
  go_enter Tryd.func26, Tryd.ntmps26
  go_wp2_with (first
    | ((with_reducible refine gL_box hM ?_); refine ⟨_, _, _, rfl, rfl, hC, ?_⟩; intro gx _ hM2; clear hM; have hM := hM2; clear hM2)
    | ((with_reducible refine gL_buildBytes (dst := some 10) hM ?_); refine ⟨_, _, (us_of rfl), (el_of rfl), (by decide), (by decide), rfl, (by (repeat (first | exact EvB.nil | apply EvB.cons rfl (by first | exact (rfl : B8 _ = B8 _) | exact lit8 _ (by decide)))); done), ?_⟩; intro g10 _ hM2; clear hM; have hM := hM2; clear hM2)
    | go_skip | ((first | (with_reducible refine gL_load ?_) | ((with_reducible refine gG_load ?_ ?_); (exact wanted_of rfl rfl rfl rfl rfl))); refine ⟨_, _, rfl, (by (first | (assumption) | (exact hM.loads_B8 (by (repeat (first | exact .head _ | apply List.Mem.tail)); done) (on_of rfl) (by first | omega | (simp only [Len] at *; omega) | (simp; omega))) | (exact hM.loads_all (by (repeat (first | exact .head _ | apply List.Mem.tail)); done) (ag_of rfl) (by first | assumption | exact Len.map (by assumption) _ | rfl | exact Len.map (by rfl) _ | exact Len.of (by simp; done))) | (exact hM.loads_one (by (repeat (first | exact .head _ | apply List.Mem.tail)); done) (on_of rfl) rfl) | (exact hM.loads_W32 (by (repeat (first | exact .head _ | apply List.Mem.tail)); done) (on_of rfl) (by first | omega | (simp only [Len] at *; omega) | (simp; omega))) | (exact loads_cell (by assumption) (on_of rfl)))), ?_⟩) | ((with_reducible refine gL_store hM ?_); refine ⟨_, _, _, rfl, rfl, (by (first | (exact hM.stores_B8 (by first | exact (rfl : B8 _ = B8 _) | exact lit8 _ (by decide)) (by (repeat (first | exact .here _ _ _ | apply Has.there)); done) (on_of rfl) (by first | omega | (simp only [Len] at *; omega) | (simp; omega))) | (exact hM.stores_all (by (repeat (first | exact .here _ _ _ | apply Has.there)); done) (ag_of rfl) (by first | assumption | exact Len.map (by assumption) _ | rfl | exact Len.map (by rfl) _ | exact Len.of (by simp; done)) (by first | assumption | exact Len.map (by assumption) _ | rfl | exact Len.map (by rfl) _ | exact Len.of (by simp; done)) (by first | exact B8_one | exact W32_one | exact one_of_all rfl)) | (exact hM.stores_W32 rfl (by (repeat (first | exact .here _ _ _ | apply Has.there)); done) (on_of rfl) (by first | omega | (simp only [Len] at *; omega) | (simp; omega))) | (exact hM.stores_one (by (repeat (first | exact .here _ _ _ | apply Has.there)); done) (on_of rfl) (by first | omega | (simp only [Len] at *; omega) | (simp; omega)) rfl rfl))), ?_⟩; intro _ hM2; clear hM; have hM := hM2; clear hM2) | ((with_reducible refine gL_alloc hM ?_); refine ⟨_, _, (zr_of rfl), ?_⟩; intro _ _ hM2; clear hM; have hM := hM2; clear hM2) | ((with_reducible refine gL_box hM ?_); refine ⟨_, _, _, rfl, rfl, (by first | assumption | exact Len.map (by assumption) _ | rfl | exact Len.map (by rfl) _ | exact Len.of (by simp; done)), ?_⟩; intro _ _ hM2; clear hM; have hM := hM2; clear hM2) | ((with_reducible refine gL_build0 ?_); refine ⟨_, _, _, _, _, _, (zr_of rfl), (ua_of rfl), (ag_of rfl), (el_of rfl), ?_⟩) | ((with_reducible refine gL_buildBytes hM ?_); refine ⟨_, _, (us_of rfl), (el_of rfl), (by decide), (by decide), rfl, (by (repeat (first | exact EvB.nil | apply EvB.cons rfl (by first | exact (rfl : B8 _ = B8 _) | exact lit8 _ (by decide)))); done), ?_⟩; intro _ _ hM2; clear hM; have hM := hM2; clear hM2) | ((with_reducible refine gL_append_B hM ?_); refine ⟨_, _, _, _, _, _, _, _, _, _, rfl, rfl, (by first | exact (rfl : Value.slice (some ⟨_, 0, none⟩) _ _ = sl (some _) _ _) | exact (rfl : Value.slice none _ _ = sl none _ _) | rfl), (us_of rfl), (el_of rfl), (by first | exact hM.src (by (repeat (first | exact .head _ | apply List.Mem.tail)); done) | exact (hM.bytes0 (by assumption)).src), (fun _ _ => by (repeat (first | exact .here _ _ _ | apply Swap.there)); done), (by first | assumption | exact Len.map (by assumption) _ | rfl | exact Len.map (by rfl) _ | exact Len.of (by simp; done)), (by first | assumption | exact Len.map (by assumption) _ | rfl | exact Len.map (by rfl) _ | exact Len.of (by simp; done)), (by first | assumption | (simp [maxLen]; done) | omega | (simp [maxLen]; omega)), (by first | omega | (simp only [Len] at *; omega) | (simp; omega)), ?_⟩; intro _ _ _ hM2 _ _; clear hM; have hM := hM2; clear hM2) | ((first | (with_reducible refine gL_field ?_) | ((with_reducible refine gG_field ?_ ?_); (exact wanted_of rfl rfl rfl rfl rfl))); refine ⟨_, _, rfl, (by (first | (exact field_one (fb_of rfl) rfl) | (exact field_agg (fa_of rfl) rfl))), ?_⟩))
  rw [HH ()] at hM
  clear HH
  have hq := ref11_four' (some g10) H 8 12 8 rfl hl1 (by decide) hM vn (by decide)
  rw [sl_some] at hq
  refine hq.mono ?_
  clear hq hM
  rintro _ w1 ⟨ob1, cap1, rfl, hc1, hM⟩
  go_wp2_with (first | go_skip | ((first | (with_reducible refine gL_load ?_) | ((with_reducible refine gG_load ?_ ?_); (exact wanted_of rfl rfl rfl rfl rfl))); refine ⟨_, _, rfl, (by (first | (assumption) | (exact hM.loads_B8 (by (repeat (first | exact .head _ | apply List.Mem.tail)); done) (on_of rfl) (by first | omega | (simp only [Len] at *; omega) | (simp; omega))) | (exact hM.loads_all (by (repeat (first | exact .head _ | apply List.Mem.tail)); done) (ag_of rfl) (by first | assumption | exact Len.map (by assumption) _ | rfl | exact Len.map (by rfl) _ | exact Len.of (by simp; done))) | (exact hM.loads_one (by (repeat (first | exact .head _ | apply List.Mem.tail)); done) (on_of rfl) rfl) | (exact hM.loads_W32 (by (repeat (first | exact .head _ | apply List.Mem.tail)); done) (on_of rfl) (by first | omega | (simp only [Len] at *; omega) | (simp; omega))) | (exact loads_cell (by assumption) (on_of rfl)))), ?_⟩) | ((with_reducible refine gL_store hM ?_); refine ⟨_, _, _, rfl, rfl, (by (first | (exact hM.stores_B8 (by first | exact (rfl : B8 _ = B8 _) | exact lit8 _ (by decide)) (by (repeat (first | exact .here _ _ _ | apply Has.there)); done) (on_of rfl) (by first | omega | (simp only [Len] at *; omega) | (simp; omega))) | (exact hM.stores_all (by (repeat (first | exact .here _ _ _ | apply Has.there)); done) (ag_of rfl) (by first | assumption | exact Len.map (by assumption) _ | rfl | exact Len.map (by rfl) _ | exact Len.of (by simp; done)) (by first | assumption | exact Len.map (by assumption) _ | rfl | exact Len.map (by rfl) _ | exact Len.of (by simp; done)) (by first | exact B8_one | exact W32_one | exact one_of_all rfl)) | (exact hM.stores_W32 rfl (by (repeat (first | exact .here _ _ _ | apply Has.there)); done) (on_of rfl) (by first | omega | (simp only [Len] at *; omega) | (simp; omega))) | (exact hM.stores_one (by (repeat (first | exact .here _ _ _ | apply Has.there)); done) (on_of rfl) (by first | omega | (simp only [Len] at *; omega) | (simp; omega)) rfl rfl))), ?_⟩; intro _ hM2; clear hM; have hM := hM2; clear hM2) | ((with_reducible refine gL_alloc hM ?_); refine ⟨_, _, (zr_of rfl), ?_⟩; intro _ _ hM2; clear hM; have hM := hM2; clear hM2) | ((with_reducible refine gL_box hM ?_); refine ⟨_, _, _, rfl, rfl, (by first | assumption | exact Len.map (by assumption) _ | rfl | exact Len.map (by rfl) _ | exact Len.of (by simp; done)), ?_⟩; intro _ _ hM2; clear hM; have hM := hM2; clear hM2) | ((with_reducible refine gL_build0 ?_); refine ⟨_, _, _, _, _, _, (zr_of rfl), (ua_of rfl), (ag_of rfl), (el_of rfl), ?_⟩) | ((with_reducible refine gL_buildBytes hM ?_); refine ⟨_, _, (us_of rfl), (el_of rfl), (by decide), (by decide), rfl, (by (repeat (first | exact EvB.nil | apply EvB.cons rfl (by first | exact (rfl : B8 _ = B8 _) | exact lit8 _ (by decide)))); done), ?_⟩; intro _ _ hM2; clear hM; have hM := hM2; clear hM2) | ((with_reducible refine gL_append_B hM ?_); refine ⟨_, _, _, _, _, _, _, _, _, _, rfl, rfl, (by first | exact (rfl : Value.slice (some ⟨_, 0, none⟩) _ _ = sl (some _) _ _) | exact (rfl : Value.slice none _ _ = sl none _ _) | rfl), (us_of rfl), (el_of rfl), (by first | exact hM.src (by (repeat (first | exact .head _ | apply List.Mem.tail)); done) | exact (hM.bytes0 (by assumption)).src), (fun _ _ => by (repeat (first | exact .here _ _ _ | apply Swap.there)); done), (by first | assumption | exact Len.map (by assumption) _ | rfl | exact Len.map (by rfl) _ | exact Len.of (by simp; done)), (by first | assumption | exact Len.map (by assumption) _ | rfl | exact Len.map (by rfl) _ | exact Len.of (by simp; done)), (by first | assumption | (simp [maxLen]; done) | omega | (simp [maxLen]; omega)), (by first | omega | (simp only [Len] at *; omega) | (simp; omega)), ?_⟩; intro _ _ _ hM2 _ _; clear hM; have hM := hM2; clear hM2) | ((first | (with_reducible refine gL_field ?_) | ((with_reducible refine gG_field ?_ ?_); (exact wanted_of rfl rfl rfl rfl rfl))); refine ⟨_, _, rfl, (by (first | (exact field_one (fb_of rfl) rfl) | (exact field_agg (fa_of rfl) rfl))), ?_⟩))
  have hq := ref11_four' ob1 (H ++ Img.four vn) 12 16 cap1 rfl hl2 hc1 hM n (by decide)
  refine hq.mono ?_
  clear hq hM
  rintro _ w2 ⟨ob2, cap2, rfl, hc2, hM⟩
  have hs := (hM.bytes0 hp).src
  rw [hn.eq] at hs
  go_wp2_with (first
    | ((with_reducible refine gL_append_B (dst := some 23) hM ?_); refine ⟨_, _, ob2, 16, cap2, 5, H ++ Img.four vn ++ Img.four n, B, n, _, rfl, rfl, rfl, (us_of rfl), (el_of rfl), hs, (fun _ _ => .here _ _ _), hl3, hn, hc2, (by omega), ?_⟩; intro ob3 cap3 _ hM2 _ h32; clear hM hs; have hM := hM2; clear hM2)
    | go_skip | ((first | (with_reducible refine gL_load ?_) | ((with_reducible refine gG_load ?_ ?_); (exact wanted_of rfl rfl rfl rfl rfl))); refine ⟨_, _, rfl, (by (first | (assumption) | (exact hM.loads_B8 (by (repeat (first | exact .head _ | apply List.Mem.tail)); done) (on_of rfl) (by first | omega | (simp only [Len] at *; omega) | (simp; omega))) | (exact hM.loads_all (by (repeat (first | exact .head _ | apply List.Mem.tail)); done) (ag_of rfl) (by first | assumption | exact Len.map (by assumption) _ | rfl | exact Len.map (by rfl) _ | exact Len.of (by simp; done))) | (exact hM.loads_one (by (repeat (first | exact .head _ | apply List.Mem.tail)); done) (on_of rfl) rfl) | (exact hM.loads_W32 (by (repeat (first | exact .head _ | apply List.Mem.tail)); done) (on_of rfl) (by first | omega | (simp only [Len] at *; omega) | (simp; omega))) | (exact loads_cell (by assumption) (on_of rfl)))), ?_⟩) | ((with_reducible refine gL_store hM ?_); refine ⟨_, _, _, rfl, rfl, (by (first | (exact hM.stores_B8 (by first | exact (rfl : B8 _ = B8 _) | exact lit8 _ (by decide)) (by (repeat (first | exact .here _ _ _ | apply Has.there)); done) (on_of rfl) (by first | omega | (simp only [Len] at *; omega) | (simp; omega))) | (exact hM.stores_all (by (repeat (first | exact .here _ _ _ | apply Has.there)); done) (ag_of rfl) (by first | assumption | exact Len.map (by assumption) _ | rfl | exact Len.map (by rfl) _ | exact Len.of (by simp; done)) (by first | assumption | exact Len.map (by assumption) _ | rfl | exact Len.map (by rfl) _ | exact Len.of (by simp; done)) (by first | exact B8_one | exact W32_one | exact one_of_all rfl)) | (exact hM.stores_W32 rfl (by (repeat (first | exact .here _ _ _ | apply Has.there)); done) (on_of rfl) (by first | omega | (simp only [Len] at *; omega) | (simp; omega))) | (exact hM.stores_one (by (repeat (first | exact .here _ _ _ | apply Has.there)); done) (on_of rfl) (by first | omega | (simp only [Len] at *; omega) | (simp; omega)) rfl rfl))), ?_⟩; intro _ hM2; clear hM; have hM := hM2; clear hM2) | ((with_reducible refine gL_alloc hM ?_); refine ⟨_, _, (zr_of rfl), ?_⟩; intro _ _ hM2; clear hM; have hM := hM2; clear hM2) | ((with_reducible refine gL_box hM ?_); refine ⟨_, _, _, rfl, rfl, (by first | assumption | exact Len.map (by assumption) _ | rfl | exact Len.map (by rfl) _ | exact Len.of (by simp; done)), ?_⟩; intro _ _ hM2; clear hM; have hM := hM2; clear hM2) | ((with_reducible refine gL_build0 ?_); refine ⟨_, _, _, _, _, _, (zr_of rfl), (ua_of rfl), (ag_of rfl), (el_of rfl), ?_⟩) | ((with_reducible refine gL_buildBytes hM ?_); refine ⟨_, _, (us_of rfl), (el_of rfl), (by decide), (by decide), rfl, (by (repeat (first | exact EvB.nil | apply EvB.cons rfl (by first | exact (rfl : B8 _ = B8 _) | exact lit8 _ (by decide)))); done), ?_⟩; intro _ _ hM2; clear hM; have hM := hM2; clear hM2) | ((with_reducible refine gL_append_B hM ?_); refine ⟨_, _, _, _, _, _, _, _, _, _, rfl, rfl, (by first | exact (rfl : Value.slice (some ⟨_, 0, none⟩) _ _ = sl (some _) _ _) | exact (rfl : Value.slice none _ _ = sl none _ _) | rfl), (us_of rfl), (el_of rfl), (by first | exact hM.src (by (repeat (first | exact .head _ | apply List.Mem.tail)); done) | exact (hM.bytes0 (by assumption)).src), (fun _ _ => by (repeat (first | exact .here _ _ _ | apply Swap.there)); done), (by first | assumption | exact Len.map (by assumption) _ | rfl | exact Len.map (by rfl) _ | exact Len.of (by simp; done)), (by first | assumption | exact Len.map (by assumption) _ | rfl | exact Len.map (by rfl) _ | exact Len.of (by simp; done)), (by first | assumption | (simp [maxLen]; done) | omega | (simp [maxLen]; omega)), (by first | omega | (simp only [Len] at *; omega) | (simp; omega)), ?_⟩; intro _ _ _ hM2 _ _; clear hM; have hM := hM2; clear hM2) | ((first | (with_reducible refine gL_field ?_) | ((with_reducible refine gG_field ?_ ?_); (exact wanted_of rfl rfl rfl rfl rfl))); refine ⟨_, _, rfl, (by (first | (exact field_one (fb_of rfl) rfl) | (exact field_agg (fa_of rfl) rfl))), ?_⟩))
  rw [HR ()] at hM
  go_ret
  exact ⟨ob3, cap3, rfl, h32, hM.drop2⟩

set_option maxRecDepth 100000 in
set_option maxHeartbeats 4000000 in
theorem ref11_Tagged (w : World) (x : Img.Im) (p : Value) (hp : Bytes w p x.pay) (hT : Len x.tag 32) (hO : ¬ Img.Off x) (n : Nat) (hn : Len x.pay n) (hl : n ≤ 524240) :
    Calls Tryd.prog 27 #[.agg (imC x p).toArray] w fun e w' => ∃ ob cap, e = .returned (sl ob (n + 48) cap) ∧ cap ≤ maxLen ∧ Mem [] w w' [⟨ob, 5, (Img.cover x ++ x.tag).map B8, cap⟩] := by
  have hM := Mem.start w
  have hC := imC_len hT p
  have hcov : ∀ w', Adds w w' → _ := fun w' hb => ref11_Cover w' x p (hp.adds hb) hT hO n hn hl
  have hcl : Len (Img.cover x) (16 + n) := Len.of (by rw [Img.cover_len, hn.eq])
  have hget : ∀ j, j < 32 → (imC x p)[4 + j]? = some (B8 (gb x.tag j)) := fun j hj => by
    unfold imC
    rw [List.getElem?_append_right (by simp), show 4 + j - ([.int .i64 x.slot, .int .i64 x.key, .int .i64 x.ver, p] : List Value).length = j from by simp, List.getElem?_map, List.getElem?_eq_getElem (by rw [hT.eq]; exact hj)]
    unfold gb
    rw [List.getD_eq_getElem?_getD, List.getElem?_eq_getElem (by rw [hT.eq]; exact hj)]
    rfl
  generalize imC x p = C at *
  generalize Img.cover x = R at *
  generalize x.tag = T at *
  clear hO hp
  have htk : ∀ j : Nat, j < 32 → R ++ T.take j ++ [gb T j] = R ++ T.take (j + 1) := fun j hj => by
    rw [List.append_assoc, List.take_succ_eq_append_getElem (by rw [hT.eq]; exact hj)]
    unfold gb
    rw [List.getD_eq_getElem?_getD, List.getElem?_eq_getElem (by rw [hT.eq]; exact hj)]
    rfl
  have htl : ∀ j : Nat, j ≤ 32 → Len (R ++ T.take j) (16 + n + j) := fun j hj => Len.of (by rw [List.length_append, hcl.eq, List.length_take, hT.eq]; omega)
  have hend : R ++ T.take 32 = R ++ T := by rw [List.take_of_length_le (by rw [hT.eq]; omega)]
  have h00 : R ++ T.take 0 = R := by simp
  have HEND : ∀ _ : Unit, R ++ T.take 32 = R ++ T := fun _ => hend
  clear hend
  go_enter Tryd.func27, Tryd.ntmps27
  go_wp2_with (first
    | ((with_reducible refine gL_box hM ?_); refine ⟨_, _, _, rfl, rfl, hC, ?_⟩; intro gx _ hM2; clear hM; have hM := hM2; clear hM2)
    | ((with_reducible refine gL_load (dst := some 5) ?_); refine ⟨_, _, rfl, hM.loads_all (.head _) (ag_of rfl) hC, ?_⟩)
    | go_skip | ((first | (with_reducible refine gL_load ?_) | ((with_reducible refine gG_load ?_ ?_); (exact wanted_of rfl rfl rfl rfl rfl))); refine ⟨_, _, rfl, (by (first | (assumption) | (exact hM.loads_B8 (by (repeat (first | exact .head _ | apply List.Mem.tail)); done) (on_of rfl) (by first | omega | (simp only [Len] at *; omega) | (simp; omega))) | (exact hM.loads_all (by (repeat (first | exact .head _ | apply List.Mem.tail)); done) (ag_of rfl) (by first | assumption | exact Len.map (by assumption) _ | rfl | exact Len.map (by rfl) _ | exact Len.of (by simp; done))) | (exact hM.loads_one (by (repeat (first | exact .head _ | apply List.Mem.tail)); done) (on_of rfl) rfl) | (exact hM.loads_W32 (by (repeat (first | exact .head _ | apply List.Mem.tail)); done) (on_of rfl) (by first | omega | (simp only [Len] at *; omega) | (simp; omega))) | (exact loads_cell (by assumption) (on_of rfl)))), ?_⟩) | ((with_reducible refine gL_store hM ?_); refine ⟨_, _, _, rfl, rfl, (by (first | (exact hM.stores_B8 (by first | exact (rfl : B8 _ = B8 _) | exact lit8 _ (by decide)) (by (repeat (first | exact .here _ _ _ | apply Has.there)); done) (on_of rfl) (by first | omega | (simp only [Len] at *; omega) | (simp; omega))) | (exact hM.stores_all (by (repeat (first | exact .here _ _ _ | apply Has.there)); done) (ag_of rfl) (by first | assumption | exact Len.map (by assumption) _ | rfl | exact Len.map (by rfl) _ | exact Len.of (by simp; done)) (by first | assumption | exact Len.map (by assumption) _ | rfl | exact Len.map (by rfl) _ | exact Len.of (by simp; done)) (by first | exact B8_one | exact W32_one | exact one_of_all rfl)) | (exact hM.stores_W32 rfl (by (repeat (first | exact .here _ _ _ | apply Has.there)); done) (on_of rfl) (by first | omega | (simp only [Len] at *; omega) | (simp; omega))) | (exact hM.stores_one (by (repeat (first | exact .here _ _ _ | apply Has.there)); done) (on_of rfl) (by first | omega | (simp only [Len] at *; omega) | (simp; omega)) rfl rfl))), ?_⟩; intro _ hM2; clear hM; have hM := hM2; clear hM2) | ((with_reducible refine gL_alloc hM ?_); refine ⟨_, _, (zr_of rfl), ?_⟩; intro _ _ hM2; clear hM; have hM := hM2; clear hM2) | ((with_reducible refine gL_box hM ?_); refine ⟨_, _, _, rfl, rfl, (by first | assumption | exact Len.map (by assumption) _ | rfl | exact Len.map (by rfl) _ | exact Len.of (by simp; done)), ?_⟩; intro _ _ hM2; clear hM; have hM := hM2; clear hM2) | ((with_reducible refine gL_build0 ?_); refine ⟨_, _, _, _, _, _, (zr_of rfl), (ua_of rfl), (ag_of rfl), (el_of rfl), ?_⟩) | ((with_reducible refine gL_buildBytes hM ?_); refine ⟨_, _, (us_of rfl), (el_of rfl), (by decide), (by decide), rfl, (by (repeat (first | exact EvB.nil | apply EvB.cons rfl (by first | exact (rfl : B8 _ = B8 _) | exact lit8 _ (by decide)))); done), ?_⟩; intro _ _ hM2; clear hM; have hM := hM2; clear hM2) | ((with_reducible refine gL_append_B hM ?_); refine ⟨_, _, _, _, _, _, _, _, _, _, rfl, rfl, (by first | exact (rfl : Value.slice (some ⟨_, 0, none⟩) _ _ = sl (some _) _ _) | exact (rfl : Value.slice none _ _ = sl none _ _) | rfl), (us_of rfl), (el_of rfl), (by first | exact hM.src (by (repeat (first | exact .head _ | apply List.Mem.tail)); done) | exact (hM.bytes0 (by assumption)).src), (fun _ _ => by (repeat (first | exact .here _ _ _ | apply Swap.there)); done), (by first | assumption | exact Len.map (by assumption) _ | rfl | exact Len.map (by rfl) _ | exact Len.of (by simp; done)), (by first | assumption | exact Len.map (by assumption) _ | rfl | exact Len.map (by rfl) _ | exact Len.of (by simp; done)), (by first | assumption | (simp [maxLen]; done) | omega | (simp [maxLen]; omega)), (by first | omega | (simp only [Len] at *; omega) | (simp; omega)), ?_⟩; intro _ _ _ hM2 _ _; clear hM; have hM := hM2; clear hM2) | ((first | (with_reducible refine gL_field ?_) | ((with_reducible refine gG_field ?_ ?_); (exact wanted_of rfl rfl rfl rfl rfl))); refine ⟨_, _, rfl, (by (first | (exact field_one (fb_of rfl) rfl) | (exact field_agg (fa_of rfl) rfl))), ?_⟩))
  refine (hcov _ hM.done).mono ?_
  rintro _ w1 ⟨ob1, cap1, rfl, hc1, hM1⟩
  have hM2 := hM.addMem1 hM1
  clear hM hM1
  have hM := hM2
  clear hM2
  go_wp2_with fail
  go_loopw [3, 4] (fun p i wr => ∃ (j : Nat) (ob' : Option Nat) (cap' : Nat), j ≤ 32 ∧ i = .int .i64 j ∧ p = sl ob' (16 + n + j) cap' ∧ cap' ≤ maxLen ∧ Mem [] w wr (⟨ob', 5, (R ++ T.take j).map B8, cap'⟩ :: ⟨some gx, 27, C, 36⟩ :: [])) (fun _ i _ => 32 - (intOf i).toNat)
  case atStart => exact ⟨0, ob1, cap1, by omega, rfl, rfl, hc1, by rw [h00]; exact hM⟩
  case round =>
    clear hM hcov
    obtain ⟨j, ob', cap', hj, rfl, rfl, hcap, hM⟩ := hrel
    by_cases hlt : j < 32
    · have hti : (j : Int) < 32 := by omega
      have hg := hget j hlt
      have hs2 : ∀ _ : Unit, R ++ T.take j ++ [gb T j] = R ++ T.take (j + 1) := fun _ => htk j hlt
      have hl3 := htl j hj
      clear hget htk htl HEND h00
      obtain ⟨A, hA⟩ : ∃ A, A = R ++ T.take j := ⟨_, rfl⟩
      rw [← hA] at hM hl3 hs2
      clear hA
      generalize gb T j = c at *
      go_wp2_with (first
        | ((with_reducible refine gL_load (dst := some 15) ?_); refine ⟨_, _, rfl, hM.loads_one (.tail _ (.head _)) (on_of rfl) hg, ?_⟩)
        | ((with_reducible refine gL_buildBytes (dst := some 16) hM ?_); refine ⟨_, _, (us_of rfl), (el_of rfl), (by decide), (by decide), rfl, (by (repeat (first | exact EvB.nil | apply EvB.cons rfl (by first | exact (rfl : B8 _ = B8 _) | exact lit8 _ (by decide)))); done), ?_⟩; intro g16 _ hM2; clear hM; have hM := hM2; clear hM2)
        | ((with_reducible refine gL_append_B (dst := some 17) hM ?_); have hx := hM.src (m := 1) (cap := 1) (.head _); refine ⟨_, _, ob', 16 + n + j, cap', 5, A, [c], 1, _, rfl, rfl, rfl, (us_of rfl), (el_of rfl), hx, (fun _ _ => .there _ (.here _ _ _)), hl3, rfl, hcap, (by omega), ?_⟩; clear hx; intro ob2 cap2 _ hM2 _ hd2; clear hM; have hM := hM2; clear hM2))
      replace hM := hM.drop
      rw [hs2 ()] at hM
      go_roundw
      case rel => exact ⟨j + 1, ob2, cap2, by omega, by go_num, rfl, hd2, hM⟩
      case measure => simp [intOf]; omega
    · have hje : j = 32 := by omega
      subst hje
      rw [HEND ()] at hM
      go_wp2_with fail
      go_ret
      exact ⟨ob', cap', (by rw [show 16 + n + 32 = n + 48 from by omega]; rfl), hcap, hM.drop2⟩

theorem make_no {s : List UInt8} {x : Img.Im} {k : Nat} (h : Img.may x = k) (hk : ¬ k = 0) : Img.make s x = ([], k) := by rw [Img.make, if_neg (by rw [h]; exact hk), h]
theorem make_yes {s : List UInt8} {x : Img.Im} {T : List UInt8} (h : Img.may x = 0) (hT : Mac.tag s (Img.cover x) = T) : Img.make s x = (Img.cover x ++ T, 0) := by rw [Img.make, if_pos h, hT]
theorem may_zero {x : Img.Im} (h : Img.may x = 0) : ¬ Img.Off x ∧ x.pay.length ≤ 524240 := by
  refine ⟨fun ho => (by rw [may_off ho] at h; cases h), ?_⟩
  rcases Nat.lt_or_ge 524240 x.pay.length with hl | hl
  · by_cases ho : Img.Off x
    · rw [may_off ho] at h; cases h
    · rw [may_long ho hl] at h; cases h
  · exact hl
theorem tag_set (x : Img.Im) (p : Value) (T : List UInt8) (hT : Len x.tag 32) (_hT2 : Len T 32) : (imC x p).take 4 ++ T.map B8 ++ (imC x p).drop (4 + 32) = imC ⟨x.slot, x.key, x.ver, x.pay, T⟩ p := by
  show ([.int .i64 x.slot, .int .i64 x.key, .int .i64 x.ver, p] : List Value) ++ T.map B8 ++ (x.tag.map B8).drop 32 = _
  rw [List.drop_eq_nil_of_le (by rw [List.length_map, hT.eq]; exact Nat.le_refl _), List.append_nil]

set_option maxRecDepth 100000 in
set_option maxHeartbeats 4000000 in
theorem ref11_Make (w0 : World) (v : Value) (s : List UInt8) (hs : Bytes w0 v s) (hsl : s.length ≤ 140737488351232) (x : Img.Im) (p : Value) (hp : Bytes w0 p x.pay) (hT : Len x.tag 32) :
    Calls Tryd.prog 11 #[v, .agg (imC x p).toArray] w0 fun e w' => ∃ ob m cap, e = .returned (.tuple #[sl ob m cap, .int .i64 ((Img.make s x).2 : Int)]) ∧ Len (Img.make s x).1 m ∧ cap ≤ maxLen ∧ Mem [] w0 w' [⟨ob, 5, (Img.make s x).1.map B8, cap⟩] := by
  have hM := Mem.start w0
  have hC := imC_len hT p
  have hmay : ∀ w', Adds w0 w' → _ := fun w' hb => ref11_May w' x p (hp.adds hb) hT
  obtain ⟨k, hk⟩ : ∃ k, Img.may x = k := ⟨_, rfl⟩
  rw [hk] at hmay
  by_cases hk0 : k = 0
  · subst hk0
    obtain ⟨hO, hl⟩ := may_zero hk
    obtain ⟨T, hTT⟩ : ∃ T, Mac.tag s (Img.cover x) = T := ⟨_, rfl⟩
    have hT2 : Len T 32 := by rw [← hTT]; exact Len.of (Mac.tag_len _ _)
    rw [make_yes hk hTT]
    obtain ⟨n, hn⟩ : ∃ n, x.pay.length = n := ⟨_, rfl⟩
    rw [hn] at hl
    have hcl : Len (Img.cover x) (16 + n) := Len.of (by rw [Img.cover_len, hn])
    have hcov : ∀ w', Adds w0 w' → _ := fun w' hb => ref11_Cover w' x p (hp.adds hb) hT hO n (Len.of hn) hl
    have hof : ∀ w' v2, Adds w0 w' → Bytes w' v2 (Img.cover x) → _ := fun w' v2 hb h2 => ref03_Of w' v v2 s (Img.cover x) (hs.adds hb) h2 (by omega) (by rw [hcl.eq]; omega) T hTT
    have htag : ∀ w', Adds w0 w' → _ := fun w' hb => ref11_Tagged w' ⟨x.slot, x.key, x.ver, x.pay, T⟩ p (hp.adds hb) hT2 hO n (Len.of hn) hl
    rw [show Img.cover (⟨x.slot, x.key, x.ver, x.pay, T⟩ : Img.Im) = Img.cover x from rfl] at htag
    have hset := tag_set x p T hT hT2
    have hC2 := imC_len (x := ⟨x.slot, x.key, x.ver, x.pay, T⟩) hT2 p
    generalize imC ⟨x.slot, x.key, x.ver, x.pay, T⟩ p = C2 at *
    generalize imC x p = C at *
    generalize Img.cover x = R at *
    clear hO hk hn hp hTT
    have hRl : Len (R ++ T) (n + 48) := Len.of (by rw [List.length_append, hcl.eq, hT2.eq]; omega)
    go_enter Tryd.func11, Tryd.ntmps11
    go_wp2_with (first
      | ((with_reducible refine gL_box hM ?_); refine ⟨_, _, _, rfl, rfl, hC, ?_⟩; intro gx _ hM2; clear hM; have hM := hM2; clear hM2)
      | ((with_reducible refine gL_load (dst := some 7) ?_); refine ⟨_, _, rfl, hM.loads_all (.head _) (ag_of rfl) hC, ?_⟩))
    refine (hmay _ hM.done).mono ?_
    rintro _ w1 ⟨rfl, B1⟩
    replace hM := hM.adds B1
    clear B1
    go_wp2_with (first
      | ((with_reducible refine gL_load (dst := some 13) ?_); refine ⟨_, _, rfl, hM.loads_all (.head _) (ag_of rfl) hC, ?_⟩))
    refine (hcov _ hM.done).mono ?_
    rintro _ w2 ⟨ob1, cap1, rfl, hc1, hM1⟩
    have hM2 := hM.addMem1 hM1
    clear hM hM1
    have hM := hM2
    clear hM2
    go_wp2_with fail
    refine (hof _ _ hM.done (hM.whole (.head _) hcl (by simpa [maxLen] using hc1))).mono ?_
    rintro _ w3 ⟨rfl, B1⟩
    replace hM := (hM.adds B1).drop
    clear B1
    have hH : Has [⟨some gx, 27, C, 36⟩] ⟨some gx, 27, C, 36⟩ ⟨some gx, 27, C.take 4 ++ T.map B8 ++ C.drop (4 + 32), 36⟩ [⟨some gx, 27, C2, 36⟩] := by rw [hset]; exact .here _ _ _
    go_wp2_with (first
      | ((with_reducible refine gL_store hM ?_); refine ⟨_, _, _, rfl, rfl, hM.stores hH (ag_of rfl) (hT2.map B8) (by rw [hC.eq]; exact Nat.le_refl _) B8_one, ?_⟩; intro _ hM2; clear hM; have hM := hM2; clear hM2)
      | ((with_reducible refine gL_load (dst := some 17) ?_); refine ⟨_, _, rfl, hM.loads_all (.head _) (ag_of rfl) hC2, ?_⟩))
    refine (htag _ hM.done).mono ?_
    rintro _ w4 ⟨ob2, cap2, rfl, hc2, hM1⟩
    have hM2 := hM.addMem1 hM1
    clear hM hM1
    go_wp2_with fail
    go_ret2
    exact ⟨ob2, n + 48, cap2, rfl, hRl, hc2, hM2.drop2⟩
  · rw [make_no hk hk0]
    have hki : ¬ (k : Int) = 0 := by omega
    generalize imC x p = C at *
    clear hp hk
    go_enter Tryd.func11, Tryd.ntmps11
    go_wp2_with (first
      | ((with_reducible refine gL_box hM ?_); refine ⟨_, _, _, rfl, rfl, hC, ?_⟩; intro gx _ hM2; clear hM; have hM := hM2; clear hM2)
      | ((with_reducible refine gL_load (dst := some 7) ?_); refine ⟨_, _, rfl, hM.loads_all (.head _) (ag_of rfl) hC, ?_⟩))
    refine (hmay _ hM.done).mono ?_
    rintro _ w1 ⟨rfl, B1⟩
    replace hM := hM.adds B1
    clear B1
    go_wp2_with fail
    go_ret2
    exact ⟨none, 0, 0, rfl, rfl, by decide, (hM.drop.addNil 5)⟩

set_option maxRecDepth 100000 in
set_option maxHeartbeats 4000000 in
theorem image_Make (w0 : World) (v : Value) (s : List UInt8) (hs : Bytes w0 v s) (hsl : s.length ≤ 140737488351232) (x : Img.Im) (p : Value) (hp : Bytes w0 p x.pay) (hT : Len x.tag 32) :
    Calls Tryd.prog 10 #[v, .agg (imC x p).toArray] w0 fun e w' => ∃ ob m cap, e = .returned (.tuple #[sl ob m cap, .int .i64 ((Img.make s x).2 : Int)]) ∧ Len (Img.make s x).1 m ∧ cap ≤ maxLen ∧ Mem [] w0 w' [⟨ob, 5, (Img.make s x).1.map B8, cap⟩] := by
  have hM := Mem.start w0
  have hC := imC_len hT p
  have hw := im_ways x
  have hOff : ∀ _ : Unit, Img.Off x ↔ (x.slot < 0 ∨ 7 < x.slot ∨ x.key < 0 ∨ 63 < x.key ∨ x.ver < 0 ∨ 4294967295 < x.ver) := fun _ => Iff.rfl
  obtain ⟨ao, cap, rfl, g1, g2, -⟩ := id hp
  obtain ⟨n, hn⟩ : ∃ n, x.pay.length = n := ⟨_, rfl⟩
  have hbad : ∀ _ : Unit, (Img.Off x → Img.make s x = ([], 2)) ∧ (¬ Img.Off x → 524240 < n → Img.make s x = ([], 4)) := fun _ => ⟨fun h => make_no (may_off h) (by decide), fun h h2 => make_no (may_long h (by rw [hn]; exact h2)) (by decide)⟩
  rw [hn] at g1 hC ⊢
  by_cases hgood : ¬ Img.Off x ∧ ¬ 524240 < n
  · obtain ⟨hO, hl⟩ := hgood
    have hmay : Img.may x = 0 := may_ok hO (by rw [hn]; exact hl)
    obtain ⟨T, hTT⟩ : ∃ T, Mac.tag s (Img.cover x) = T := ⟨_, rfl⟩
    have hT2 : Len T 32 := by rw [← hTT]; exact Len.of (Mac.tag_len _ _)
    rw [make_yes hmay hTT]
    have hcl : Len (Img.cover x) (16 + n) := Len.of (by rw [Img.cover_len, hn])
    have hof : ∀ w' v2, Adds w0 w' → Bytes w' v2 (Img.cover x) → Calls Tryd.prog 19 #[v, v2] w' fun e w'' => e = .returned (.agg (T.map B8).toArray) ∧ Below w'.heap.size w' w'' := fun w' v2 hb h2 => hTT ▸ mac_Of w' v v2 s (Img.cover x) (hs.adds hb) h2 (by omega) (by rw [hcl.eq]; omega)
    have h8 := head8 hO
    have hO' := hO
    unfold Img.Off at hO'
    obtain ⟨vn, hv⟩ : ∃ vn : Nat, x.ver = vn := Int.eq_ofNat_of_zero_le (by omega)
    rw [hv, Int.toNat_natCast, hn] at h8
    replace hn : Len x.pay n := Len.of hn
    generalize Img.cover x = R at *
    have HR : ∀ _ : Unit, [80, 67, 85, 76] ++ [1, UInt8.ofInt x.slot, UInt8.ofInt x.key, 0] ++ Img.four vn ++ Img.four n ++ x.pay = R := fun _ => h8
    unfold imC at hC ⊢
    rw [hv] at hC hO' hw ⊢
    generalize x.pay = B at *
    generalize x.tag.map B8 = TC at *
    generalize x.slot = sl0 at *
    generalize x.key = ky at *
    clear hv h8 hO hmay hTT hbad hOff
    have i1 : ¬ sl0 < 0 := by omega
    have i2 : ¬ 8 ≤ sl0 := by omega
    have i3 : ¬ ky < 0 := by omega
    have i4 : ¬ 64 ≤ ky := by omega
    have i5 : ¬ (vn : Int) < 0 := by omega
    have i6 : ¬ 4294967296 ≤ (vn : Int) := by omega
    have hli : ¬ (524240 : Int) < (n : Int) := by omega
    clear hO' hw
    have hl1 : Len ([80, 67, 85, 76] : List UInt8) 4 := rfl
    have hl2 : Len ([80, 67, 85, 76] ++ [1, UInt8.ofInt sl0, UInt8.ofInt ky, 0]) 8 := rfl
    have hl3 : Len ([80, 67, 85, 76] ++ [1, UInt8.ofInt sl0, UInt8.ofInt ky, 0] ++ Img.four vn) 12 := rfl
    have hl4 : Len ([80, 67, 85, 76] ++ [1, UInt8.ofInt sl0, UInt8.ofInt ky, 0] ++ Img.four vn ++ Img.four n) 16 := rfl
    have hRl : Len (R ++ T) (n + 48) := Len.of (by rw [List.length_append, hcl.eq, hT2.eq]; omega)
    go_enter Tryd.func10, Tryd.ntmps10
    go_wp2_with (first
      | ((with_reducible refine gL_box hM ?_); refine ⟨_, _, _, rfl, rfl, hC, ?_⟩; intro gx _ hM2; clear hM; have hM := hM2; clear hM2)
      | ((with_reducible refine gL_make0 hM ?_); refine ⟨5, n + 48, (us_of rfl), rfl, rfl, (by show Value.int .i64 _ = Value.int .i64 _; congr 1; omega), (by omega), ?_⟩; intro gm _ hM2; clear hM; have hM := hM2; clear hM2)
      | ((with_reducible refine gL_append_str hM ?_); refine ⟨gm, 5, [], [80, 67, 85, 76], 0, n + 48, 1, _, rfl, (us_of rfl), Tryd.underlying9, (el_of rfl), .here _ _ _, rfl, rfl, (by show 0 + 4 ≤ _; omega), ?_⟩; intro _ hM2; clear hM; have hM := hM2; clear hM2)
      | ((with_reducible refine gL_buildBytes (dst := some 57) hM ?_); refine ⟨_, _, (us_of rfl), (el_of rfl), (by decide), (by decide), rfl, (by (repeat (first | exact EvB.nil | apply EvB.cons rfl (by first | exact (rfl : B8 _ = B8 _) | exact lit8 _ (by decide)))); done), ?_⟩; intro g57 _ hM2; clear hM; have hM := hM2; clear hM2)
      | ((with_reducible refine gL_append_B (dst := some 58) hM ?_); have hx := hM.src (m := 4) (cap := 4) (.head _); refine ⟨_, _, some gm, 4, n + 48, 5, [80, 67, 85, 76], [1, UInt8.ofInt sl0, UInt8.ofInt ky, 0], 4, _, rfl, rfl, rfl, (us_of rfl), (el_of rfl), hx, (fun _ _ => .there _ (.here _ _ _)), hl1, rfl, (by simp only [maxLen]; omega), (by omega), ?_⟩; clear hx; intro ob1 cap1 _ hM2 _ hc1; clear hM; have hM := hM2.drop; clear hM2)
      | go_skip | ((first | (with_reducible refine gL_load ?_) | ((with_reducible refine gG_load ?_ ?_); (exact wanted_of rfl rfl rfl rfl rfl))); refine ⟨_, _, rfl, (by (first | (assumption) | (exact hM.loads_B8 (by (repeat (first | exact .head _ | apply List.Mem.tail)); done) (on_of rfl) (by first | omega | (simp only [Len] at *; omega) | (simp; omega))) | (exact hM.loads_all (by (repeat (first | exact .head _ | apply List.Mem.tail)); done) (ag_of rfl) (by first | assumption | exact Len.map (by assumption) _ | rfl | exact Len.map (by rfl) _ | exact Len.of (by simp; done))) | (exact hM.loads_one (by (repeat (first | exact .head _ | apply List.Mem.tail)); done) (on_of rfl) rfl) | (exact hM.loads_W32 (by (repeat (first | exact .head _ | apply List.Mem.tail)); done) (on_of rfl) (by first | omega | (simp only [Len] at *; omega) | (simp; omega))) | (exact loads_cell (by assumption) (on_of rfl)))), ?_⟩) | ((with_reducible refine gL_store hM ?_); refine ⟨_, _, _, rfl, rfl, (by (first | (exact hM.stores_B8 (by first | exact (rfl : B8 _ = B8 _) | exact lit8 _ (by decide)) (by (repeat (first | exact .here _ _ _ | apply Has.there)); done) (on_of rfl) (by first | omega | (simp only [Len] at *; omega) | (simp; omega))) | (exact hM.stores_all (by (repeat (first | exact .here _ _ _ | apply Has.there)); done) (ag_of rfl) (by first | assumption | exact Len.map (by assumption) _ | rfl | exact Len.map (by rfl) _ | exact Len.of (by simp; done)) (by first | assumption | exact Len.map (by assumption) _ | rfl | exact Len.map (by rfl) _ | exact Len.of (by simp; done)) (by first | exact B8_one | exact W32_one | exact one_of_all rfl)) | (exact hM.stores_W32 rfl (by (repeat (first | exact .here _ _ _ | apply Has.there)); done) (on_of rfl) (by first | omega | (simp only [Len] at *; omega) | (simp; omega))) | (exact hM.stores_one (by (repeat (first | exact .here _ _ _ | apply Has.there)); done) (on_of rfl) (by first | omega | (simp only [Len] at *; omega) | (simp; omega)) rfl rfl))), ?_⟩; intro _ hM2; clear hM; have hM := hM2; clear hM2) | ((with_reducible refine gL_alloc hM ?_); refine ⟨_, _, (zr_of rfl), ?_⟩; intro _ _ hM2; clear hM; have hM := hM2; clear hM2) | ((with_reducible refine gL_box hM ?_); refine ⟨_, _, _, rfl, rfl, (by first | assumption | exact Len.map (by assumption) _ | rfl | exact Len.map (by rfl) _ | exact Len.of (by simp; done)), ?_⟩; intro _ _ hM2; clear hM; have hM := hM2; clear hM2) | ((with_reducible refine gL_build0 ?_); refine ⟨_, _, _, _, _, _, (zr_of rfl), (ua_of rfl), (ag_of rfl), (el_of rfl), ?_⟩) | ((with_reducible refine gL_buildBytes hM ?_); refine ⟨_, _, (us_of rfl), (el_of rfl), (by decide), (by decide), rfl, (by (repeat (first | exact EvB.nil | apply EvB.cons rfl (by first | exact (rfl : B8 _ = B8 _) | exact lit8 _ (by decide)))); done), ?_⟩; intro _ _ hM2; clear hM; have hM := hM2; clear hM2) | ((with_reducible refine gL_append_B hM ?_); refine ⟨_, _, _, _, _, _, _, _, _, _, rfl, rfl, (by first | exact (rfl : Value.slice (some ⟨_, 0, none⟩) _ _ = sl (some _) _ _) | exact (rfl : Value.slice none _ _ = sl none _ _) | rfl), (us_of rfl), (el_of rfl), (by first | exact hM.src (by (repeat (first | exact .head _ | apply List.Mem.tail)); done) | exact (hM.bytes0 (by assumption)).src), (fun _ _ => by (repeat (first | exact .here _ _ _ | apply Swap.there)); done), (by first | assumption | exact Len.map (by assumption) _ | rfl | exact Len.map (by rfl) _ | exact Len.of (by simp; done)), (by first | assumption | exact Len.map (by assumption) _ | rfl | exact Len.map (by rfl) _ | exact Len.of (by simp; done)), (by first | assumption | (simp [maxLen]; done) | omega | (simp [maxLen]; omega)), (by first | omega | (simp only [Len] at *; omega) | (simp; omega)), ?_⟩; intro _ _ _ hM2 _ _; clear hM; have hM := hM2; clear hM2) | ((first | (with_reducible refine gL_field ?_) | ((with_reducible refine gG_field ?_ ?_); (exact wanted_of rfl rfl rfl rfl rfl))); refine ⟨_, _, rfl, (by (first | (exact field_one (fb_of rfl) rfl) | (exact field_agg (fa_of rfl) rfl))), ?_⟩))
    rw [hn.eq] at hp
    have hq := image_four' ob1 _ 8 12 cap1 rfl hl2 hc1 hM vn (by decide)
    refine hq.mono ?_
    clear hq hM
    rintro _ w2 ⟨ob2, cap2, rfl, -, hc2, hM⟩
    go_wp2_with (first | go_skip | ((first | (with_reducible refine gL_load ?_) | ((with_reducible refine gG_load ?_ ?_); (exact wanted_of rfl rfl rfl rfl rfl))); refine ⟨_, _, rfl, (by (first | (assumption) | (exact hM.loads_B8 (by (repeat (first | exact .head _ | apply List.Mem.tail)); done) (on_of rfl) (by first | omega | (simp only [Len] at *; omega) | (simp; omega))) | (exact hM.loads_all (by (repeat (first | exact .head _ | apply List.Mem.tail)); done) (ag_of rfl) (by first | assumption | exact Len.map (by assumption) _ | rfl | exact Len.map (by rfl) _ | exact Len.of (by simp; done))) | (exact hM.loads_one (by (repeat (first | exact .head _ | apply List.Mem.tail)); done) (on_of rfl) rfl) | (exact hM.loads_W32 (by (repeat (first | exact .head _ | apply List.Mem.tail)); done) (on_of rfl) (by first | omega | (simp only [Len] at *; omega) | (simp; omega))) | (exact loads_cell (by assumption) (on_of rfl)))), ?_⟩) | ((with_reducible refine gL_store hM ?_); refine ⟨_, _, _, rfl, rfl, (by (first | (exact hM.stores_B8 (by first | exact (rfl : B8 _ = B8 _) | exact lit8 _ (by decide)) (by (repeat (first | exact .here _ _ _ | apply Has.there)); done) (on_of rfl) (by first | omega | (simp only [Len] at *; omega) | (simp; omega))) | (exact hM.stores_all (by (repeat (first | exact .here _ _ _ | apply Has.there)); done) (ag_of rfl) (by first | assumption | exact Len.map (by assumption) _ | rfl | exact Len.map (by rfl) _ | exact Len.of (by simp; done)) (by first | assumption | exact Len.map (by assumption) _ | rfl | exact Len.map (by rfl) _ | exact Len.of (by simp; done)) (by first | exact B8_one | exact W32_one | exact one_of_all rfl)) | (exact hM.stores_W32 rfl (by (repeat (first | exact .here _ _ _ | apply Has.there)); done) (on_of rfl) (by first | omega | (simp only [Len] at *; omega) | (simp; omega))) | (exact hM.stores_one (by (repeat (first | exact .here _ _ _ | apply Has.there)); done) (on_of rfl) (by first | omega | (simp only [Len] at *; omega) | (simp; omega)) rfl rfl))), ?_⟩; intro _ hM2; clear hM; have hM := hM2; clear hM2) | ((with_reducible refine gL_alloc hM ?_); refine ⟨_, _, (zr_of rfl), ?_⟩; intro _ _ hM2; clear hM; have hM := hM2; clear hM2) | ((with_reducible refine gL_box hM ?_); refine ⟨_, _, _, rfl, rfl, (by first | assumption | exact Len.map (by assumption) _ | rfl | exact Len.map (by rfl) _ | exact Len.of (by simp; done)), ?_⟩; intro _ _ hM2; clear hM; have hM := hM2; clear hM2) | ((with_reducible refine gL_build0 ?_); refine ⟨_, _, _, _, _, _, (zr_of rfl), (ua_of rfl), (ag_of rfl), (el_of rfl), ?_⟩) | ((with_reducible refine gL_buildBytes hM ?_); refine ⟨_, _, (us_of rfl), (el_of rfl), (by decide), (by decide), rfl, (by (repeat (first | exact EvB.nil | apply EvB.cons rfl (by first | exact (rfl : B8 _ = B8 _) | exact lit8 _ (by decide)))); done), ?_⟩; intro _ _ hM2; clear hM; have hM := hM2; clear hM2) | ((with_reducible refine gL_append_B hM ?_); refine ⟨_, _, _, _, _, _, _, _, _, _, rfl, rfl, (by first | exact (rfl : Value.slice (some ⟨_, 0, none⟩) _ _ = sl (some _) _ _) | exact (rfl : Value.slice none _ _ = sl none _ _) | rfl), (us_of rfl), (el_of rfl), (by first | exact hM.src (by (repeat (first | exact .head _ | apply List.Mem.tail)); done) | exact (hM.bytes0 (by assumption)).src), (fun _ _ => by (repeat (first | exact .here _ _ _ | apply Swap.there)); done), (by first | assumption | exact Len.map (by assumption) _ | rfl | exact Len.map (by rfl) _ | exact Len.of (by simp; done)), (by first | assumption | exact Len.map (by assumption) _ | rfl | exact Len.map (by rfl) _ | exact Len.of (by simp; done)), (by first | assumption | (simp [maxLen]; done) | omega | (simp [maxLen]; omega)), (by first | omega | (simp only [Len] at *; omega) | (simp; omega)), ?_⟩; intro _ _ _ hM2 _ _; clear hM; have hM := hM2; clear hM2) | ((first | (with_reducible refine gL_field ?_) | ((with_reducible refine gG_field ?_ ?_); (exact wanted_of rfl rfl rfl rfl rfl))); refine ⟨_, _, rfl, (by (first | (exact field_one (fb_of rfl) rfl) | (exact field_agg (fa_of rfl) rfl))), ?_⟩))
    have hq := image_four' ob2 _ 12 16 cap2 rfl hl3 hc2 hM n (by decide)
    refine hq.mono ?_
    clear hq hM
    rintro _ w3 ⟨ob3, cap3, rfl, -, hc3, hM⟩
    have hs2 := (hM.bytes0 hp).src
    rw [hn.eq] at hs2
    go_wp2_with (first
      | ((with_reducible refine gL_append_B (dst := some 71) hM ?_); refine ⟨_, _, ob3, 16, cap3, 5, [80, 67, 85, 76] ++ [1, UInt8.ofInt sl0, UInt8.ofInt ky, 0] ++ Img.four vn ++ Img.four n, B, n, _, rfl, rfl, rfl, (us_of rfl), (el_of rfl), hs2, (fun _ _ => .here _ _ _), hl4, hn, hc3, (by omega), ?_⟩; intro ob4 cap4 _ hM2 _ hc4; clear hM hs2; have hM := hM2; clear hM2; rw [HR ()] at hM)
      | go_skip | ((first | (with_reducible refine gL_load ?_) | ((with_reducible refine gG_load ?_ ?_); (exact wanted_of rfl rfl rfl rfl rfl))); refine ⟨_, _, rfl, (by (first | (assumption) | (exact hM.loads_B8 (by (repeat (first | exact .head _ | apply List.Mem.tail)); done) (on_of rfl) (by first | omega | (simp only [Len] at *; omega) | (simp; omega))) | (exact hM.loads_all (by (repeat (first | exact .head _ | apply List.Mem.tail)); done) (ag_of rfl) (by first | assumption | exact Len.map (by assumption) _ | rfl | exact Len.map (by rfl) _ | exact Len.of (by simp; done))) | (exact hM.loads_one (by (repeat (first | exact .head _ | apply List.Mem.tail)); done) (on_of rfl) rfl) | (exact hM.loads_W32 (by (repeat (first | exact .head _ | apply List.Mem.tail)); done) (on_of rfl) (by first | omega | (simp only [Len] at *; omega) | (simp; omega))) | (exact loads_cell (by assumption) (on_of rfl)))), ?_⟩) | ((with_reducible refine gL_store hM ?_); refine ⟨_, _, _, rfl, rfl, (by (first | (exact hM.stores_B8 (by first | exact (rfl : B8 _ = B8 _) | exact lit8 _ (by decide)) (by (repeat (first | exact .here _ _ _ | apply Has.there)); done) (on_of rfl) (by first | omega | (simp only [Len] at *; omega) | (simp; omega))) | (exact hM.stores_all (by (repeat (first | exact .here _ _ _ | apply Has.there)); done) (ag_of rfl) (by first | assumption | exact Len.map (by assumption) _ | rfl | exact Len.map (by rfl) _ | exact Len.of (by simp; done)) (by first | assumption | exact Len.map (by assumption) _ | rfl | exact Len.map (by rfl) _ | exact Len.of (by simp; done)) (by first | exact B8_one | exact W32_one | exact one_of_all rfl)) | (exact hM.stores_W32 rfl (by (repeat (first | exact .here _ _ _ | apply Has.there)); done) (on_of rfl) (by first | omega | (simp only [Len] at *; omega) | (simp; omega))) | (exact hM.stores_one (by (repeat (first | exact .here _ _ _ | apply Has.there)); done) (on_of rfl) (by first | omega | (simp only [Len] at *; omega) | (simp; omega)) rfl rfl))), ?_⟩; intro _ hM2; clear hM; have hM := hM2; clear hM2) | ((with_reducible refine gL_alloc hM ?_); refine ⟨_, _, (zr_of rfl), ?_⟩; intro _ _ hM2; clear hM; have hM := hM2; clear hM2) | ((with_reducible refine gL_box hM ?_); refine ⟨_, _, _, rfl, rfl, (by first | assumption | exact Len.map (by assumption) _ | rfl | exact Len.map (by rfl) _ | exact Len.of (by simp; done)), ?_⟩; intro _ _ hM2; clear hM; have hM := hM2; clear hM2) | ((with_reducible refine gL_build0 ?_); refine ⟨_, _, _, _, _, _, (zr_of rfl), (ua_of rfl), (ag_of rfl), (el_of rfl), ?_⟩) | ((with_reducible refine gL_buildBytes hM ?_); refine ⟨_, _, (us_of rfl), (el_of rfl), (by decide), (by decide), rfl, (by (repeat (first | exact EvB.nil | apply EvB.cons rfl (by first | exact (rfl : B8 _ = B8 _) | exact lit8 _ (by decide)))); done), ?_⟩; intro _ _ hM2; clear hM; have hM := hM2; clear hM2) | ((with_reducible refine gL_append_B hM ?_); refine ⟨_, _, _, _, _, _, _, _, _, _, rfl, rfl, (by first | exact (rfl : Value.slice (some ⟨_, 0, none⟩) _ _ = sl (some _) _ _) | exact (rfl : Value.slice none _ _ = sl none _ _) | rfl), (us_of rfl), (el_of rfl), (by first | exact hM.src (by (repeat (first | exact .head _ | apply List.Mem.tail)); done) | exact (hM.bytes0 (by assumption)).src), (fun _ _ => by (repeat (first | exact .here _ _ _ | apply Swap.there)); done), (by first | assumption | exact Len.map (by assumption) _ | rfl | exact Len.map (by rfl) _ | exact Len.of (by simp; done)), (by first | assumption | exact Len.map (by assumption) _ | rfl | exact Len.map (by rfl) _ | exact Len.of (by simp; done)), (by first | assumption | (simp [maxLen]; done) | omega | (simp [maxLen]; omega)), (by first | omega | (simp only [Len] at *; omega) | (simp; omega)), ?_⟩; intro _ _ _ hM2 _ _; clear hM; have hM := hM2; clear hM2) | ((first | (with_reducible refine gL_field ?_) | ((with_reducible refine gG_field ?_ ?_); (exact wanted_of rfl rfl rfl rfl rfl))); refine ⟨_, _, rfl, (by (first | (exact field_one (fb_of rfl) rfl) | (exact field_agg (fa_of rfl) rfl))), ?_⟩))
    refine (hof _ _ hM.done (hM.whole (.head _) hcl (by simpa [maxLen] using hc4))).mono ?_
    rintro _ w5 ⟨rfl, B1⟩
    replace hM := hM.adds B1
    clear B1
    go_wp2_with (first
      | ((with_reducible refine gL_append_B (dst := some 77) hM ?_); have hx := hM.src (m := 32) (cap := 32) (.head _); refine ⟨_, _, ob4, 16 + n, cap4, 5, R, T, 32, _, rfl, rfl, rfl, (us_of rfl), (el_of rfl), hx, (fun _ _ => .there _ (.here _ _ _)), hcl, hT2, hc4, (by omega), ?_⟩; clear hx; intro ob5 cap5 _ hM2 _ hc5; clear hM; have hM := hM2.drop; clear hM2)
      | go_skip | ((first | (with_reducible refine gL_load ?_) | ((with_reducible refine gG_load ?_ ?_); (exact wanted_of rfl rfl rfl rfl rfl))); refine ⟨_, _, rfl, (by (first | (assumption) | (exact hM.loads_B8 (by (repeat (first | exact .head _ | apply List.Mem.tail)); done) (on_of rfl) (by first | omega | (simp only [Len] at *; omega) | (simp; omega))) | (exact hM.loads_all (by (repeat (first | exact .head _ | apply List.Mem.tail)); done) (ag_of rfl) (by first | assumption | exact Len.map (by assumption) _ | rfl | exact Len.map (by rfl) _ | exact Len.of (by simp; done))) | (exact hM.loads_one (by (repeat (first | exact .head _ | apply List.Mem.tail)); done) (on_of rfl) rfl) | (exact hM.loads_W32 (by (repeat (first | exact .head _ | apply List.Mem.tail)); done) (on_of rfl) (by first | omega | (simp only [Len] at *; omega) | (simp; omega))) | (exact loads_cell (by assumption) (on_of rfl)))), ?_⟩) | ((with_reducible refine gL_store hM ?_); refine ⟨_, _, _, rfl, rfl, (by (first | (exact hM.stores_B8 (by first | exact (rfl : B8 _ = B8 _) | exact lit8 _ (by decide)) (by (repeat (first | exact .here _ _ _ | apply Has.there)); done) (on_of rfl) (by first | omega | (simp only [Len] at *; omega) | (simp; omega))) | (exact hM.stores_all (by (repeat (first | exact .here _ _ _ | apply Has.there)); done) (ag_of rfl) (by first | assumption | exact Len.map (by assumption) _ | rfl | exact Len.map (by rfl) _ | exact Len.of (by simp; done)) (by first | assumption | exact Len.map (by assumption) _ | rfl | exact Len.map (by rfl) _ | exact Len.of (by simp; done)) (by first | exact B8_one | exact W32_one | exact one_of_all rfl)) | (exact hM.stores_W32 rfl (by (repeat (first | exact .here _ _ _ | apply Has.there)); done) (on_of rfl) (by first | omega | (simp only [Len] at *; omega) | (simp; omega))) | (exact hM.stores_one (by (repeat (first | exact .here _ _ _ | apply Has.there)); done) (on_of rfl) (by first | omega | (simp only [Len] at *; omega) | (simp; omega)) rfl rfl))), ?_⟩; intro _ hM2; clear hM; have hM := hM2; clear hM2) | ((with_reducible refine gL_alloc hM ?_); refine ⟨_, _, (zr_of rfl), ?_⟩; intro _ _ hM2; clear hM; have hM := hM2; clear hM2) | ((with_reducible refine gL_box hM ?_); refine ⟨_, _, _, rfl, rfl, (by first | assumption | exact Len.map (by assumption) _ | rfl | exact Len.map (by rfl) _ | exact Len.of (by simp; done)), ?_⟩; intro _ _ hM2; clear hM; have hM := hM2; clear hM2) | ((with_reducible refine gL_build0 ?_); refine ⟨_, _, _, _, _, _, (zr_of rfl), (ua_of rfl), (ag_of rfl), (el_of rfl), ?_⟩) | ((with_reducible refine gL_buildBytes hM ?_); refine ⟨_, _, (us_of rfl), (el_of rfl), (by decide), (by decide), rfl, (by (repeat (first | exact EvB.nil | apply EvB.cons rfl (by first | exact (rfl : B8 _ = B8 _) | exact lit8 _ (by decide)))); done), ?_⟩; intro _ _ hM2; clear hM; have hM := hM2; clear hM2) | ((with_reducible refine gL_append_B hM ?_); refine ⟨_, _, _, _, _, _, _, _, _, _, rfl, rfl, (by first | exact (rfl : Value.slice (some ⟨_, 0, none⟩) _ _ = sl (some _) _ _) | exact (rfl : Value.slice none _ _ = sl none _ _) | rfl), (us_of rfl), (el_of rfl), (by first | exact hM.src (by (repeat (first | exact .head _ | apply List.Mem.tail)); done) | exact (hM.bytes0 (by assumption)).src), (fun _ _ => by (repeat (first | exact .here _ _ _ | apply Swap.there)); done), (by first | assumption | exact Len.map (by assumption) _ | rfl | exact Len.map (by rfl) _ | exact Len.of (by simp; done)), (by first | assumption | exact Len.map (by assumption) _ | rfl | exact Len.map (by rfl) _ | exact Len.of (by simp; done)), (by first | assumption | (simp [maxLen]; done) | omega | (simp [maxLen]; omega)), (by first | omega | (simp only [Len] at *; omega) | (simp; omega)), ?_⟩; intro _ _ _ hM2 _ _; clear hM; have hM := hM2; clear hM2) | ((first | (with_reducible refine gL_field ?_) | ((with_reducible refine gG_field ?_ ?_); (exact wanted_of rfl rfl rfl rfl rfl))); refine ⟨_, _, rfl, (by (first | (exact field_one (fb_of rfl) rfl) | (exact field_agg (fa_of rfl) rfl))), ?_⟩))
    go_ret2
    exact ⟨ob5, n + 48, cap5, (by rw [show 16 + n + 32 = n + 48 from by omega]; rfl), hRl, hc5, hM.drop2⟩
  · obtain ⟨hb1, hb2⟩ := hbad ()
    clear hbad hp
    obtain ⟨M, hMk⟩ : ∃ M, Img.make s x = M := ⟨_, rfl⟩
    rw [hMk] at hb1 hb2 ⊢
    rw [hOff ()] at hb1 hb2 hgood
    clear hOff hMk hn
    unfold imC at hC ⊢
    generalize x.tag.map B8 = TC at *
    generalize x.slot = sl0 at *
    generalize x.key = ky at *
    generalize x.ver = vr at *
    rcases hw with h1 | ⟨h1, h2⟩ | ⟨h1, h2, h3⟩ | ⟨h1, h2, h3, h4⟩ | ⟨h1, h2, h3, h4, h5⟩ | ⟨h1, h2, h3, h4, h5, h6⟩ | ⟨h1, h2, h3, h4, h5, h6⟩
    case inr.inr.inr.inr.inr.inr =>
      have hli : (524240 : Int) < (n : Int) := by omega
      obtain rfl := hb2 (by omega) (by omega)
      clear hb1 hb2 hgood
      go_enter Tryd.func10, Tryd.ntmps10
      go_wp2_with (first | ((with_reducible refine gL_box hM ?_); refine ⟨_, _, _, rfl, rfl, hC, ?_⟩; intro gx _ hM2; clear hM; have hM := hM2; clear hM2) | go_skip | ((first | (with_reducible refine gL_load ?_) | ((with_reducible refine gG_load ?_ ?_); (exact wanted_of rfl rfl rfl rfl rfl))); refine ⟨_, _, rfl, (by (first | (assumption) | (exact hM.loads_B8 (by (repeat (first | exact .head _ | apply List.Mem.tail)); done) (on_of rfl) (by first | omega | (simp only [Len] at *; omega) | (simp; omega))) | (exact hM.loads_all (by (repeat (first | exact .head _ | apply List.Mem.tail)); done) (ag_of rfl) (by first | assumption | exact Len.map (by assumption) _ | rfl | exact Len.map (by rfl) _ | exact Len.of (by simp; done))) | (exact hM.loads_one (by (repeat (first | exact .head _ | apply List.Mem.tail)); done) (on_of rfl) rfl) | (exact hM.loads_W32 (by (repeat (first | exact .head _ | apply List.Mem.tail)); done) (on_of rfl) (by first | omega | (simp only [Len] at *; omega) | (simp; omega))) | (exact loads_cell (by assumption) (on_of rfl)))), ?_⟩) | ((with_reducible refine gL_store hM ?_); refine ⟨_, _, _, rfl, rfl, (by (first | (exact hM.stores_B8 (by first | exact (rfl : B8 _ = B8 _) | exact lit8 _ (by decide)) (by (repeat (first | exact .here _ _ _ | apply Has.there)); done) (on_of rfl) (by first | omega | (simp only [Len] at *; omega) | (simp; omega))) | (exact hM.stores_all (by (repeat (first | exact .here _ _ _ | apply Has.there)); done) (ag_of rfl) (by first | assumption | exact Len.map (by assumption) _ | rfl | exact Len.map (by rfl) _ | exact Len.of (by simp; done)) (by first | assumption | exact Len.map (by assumption) _ | rfl | exact Len.map (by rfl) _ | exact Len.of (by simp; done)) (by first | exact B8_one | exact W32_one | exact one_of_all rfl)) | (exact hM.stores_W32 rfl (by (repeat (first | exact .here _ _ _ | apply Has.there)); done) (on_of rfl) (by first | omega | (simp only [Len] at *; omega) | (simp; omega))) | (exact hM.stores_one (by (repeat (first | exact .here _ _ _ | apply Has.there)); done) (on_of rfl) (by first | omega | (simp only [Len] at *; omega) | (simp; omega)) rfl rfl))), ?_⟩; intro _ hM2; clear hM; have hM := hM2; clear hM2) | ((with_reducible refine gL_alloc hM ?_); refine ⟨_, _, (zr_of rfl), ?_⟩; intro _ _ hM2; clear hM; have hM := hM2; clear hM2) | ((with_reducible refine gL_box hM ?_); refine ⟨_, _, _, rfl, rfl, (by first | assumption | exact Len.map (by assumption) _ | rfl | exact Len.map (by rfl) _ | exact Len.of (by simp; done)), ?_⟩; intro _ _ hM2; clear hM; have hM := hM2; clear hM2) | ((with_reducible refine gL_build0 ?_); refine ⟨_, _, _, _, _, _, (zr_of rfl), (ua_of rfl), (ag_of rfl), (el_of rfl), ?_⟩) | ((with_reducible refine gL_buildBytes hM ?_); refine ⟨_, _, (us_of rfl), (el_of rfl), (by decide), (by decide), rfl, (by (repeat (first | exact EvB.nil | apply EvB.cons rfl (by first | exact (rfl : B8 _ = B8 _) | exact lit8 _ (by decide)))); done), ?_⟩; intro _ _ hM2; clear hM; have hM := hM2; clear hM2) | ((with_reducible refine gL_append_B hM ?_); refine ⟨_, _, _, _, _, _, _, _, _, _, rfl, rfl, (by first | exact (rfl : Value.slice (some ⟨_, 0, none⟩) _ _ = sl (some _) _ _) | exact (rfl : Value.slice none _ _ = sl none _ _) | rfl), (us_of rfl), (el_of rfl), (by first | exact hM.src (by (repeat (first | exact .head _ | apply List.Mem.tail)); done) | exact (hM.bytes0 (by assumption)).src), (fun _ _ => by (repeat (first | exact .here _ _ _ | apply Swap.there)); done), (by first | assumption | exact Len.map (by assumption) _ | rfl | exact Len.map (by rfl) _ | exact Len.of (by simp; done)), (by first | assumption | exact Len.map (by assumption) _ | rfl | exact Len.map (by rfl) _ | exact Len.of (by simp; done)), (by first | assumption | (simp [maxLen]; done) | omega | (simp [maxLen]; omega)), (by first | omega | (simp only [Len] at *; omega) | (simp; omega)), ?_⟩; intro _ _ _ hM2 _ _; clear hM; have hM := hM2; clear hM2) | ((first | (with_reducible refine gL_field ?_) | ((with_reducible refine gG_field ?_ ?_); (exact wanted_of rfl rfl rfl rfl rfl))); refine ⟨_, _, rfl, (by (first | (exact field_one (fb_of rfl) rfl) | (exact field_agg (fa_of rfl) rfl))), ?_⟩))
      go_ret2
      exact ⟨none, 0, 0, rfl, rfl, by decide, (hM.drop.addNil 5)⟩
    all_goals
      obtain rfl := hb1 (by omega)
      clear hb1 hb2 hgood
      go_enter Tryd.func10, Tryd.ntmps10
      go_wp2_with (first | ((with_reducible refine gL_box hM ?_); refine ⟨_, _, _, rfl, rfl, hC, ?_⟩; intro gx _ hM2; clear hM; have hM := hM2; clear hM2) | go_skip | ((first | (with_reducible refine gL_load ?_) | ((with_reducible refine gG_load ?_ ?_); (exact wanted_of rfl rfl rfl rfl rfl))); refine ⟨_, _, rfl, (by (first | (assumption) | (exact hM.loads_B8 (by (repeat (first | exact .head _ | apply List.Mem.tail)); done) (on_of rfl) (by first | omega | (simp only [Len] at *; omega) | (simp; omega))) | (exact hM.loads_all (by (repeat (first | exact .head _ | apply List.Mem.tail)); done) (ag_of rfl) (by first | assumption | exact Len.map (by assumption) _ | rfl | exact Len.map (by rfl) _ | exact Len.of (by simp; done))) | (exact hM.loads_one (by (repeat (first | exact .head _ | apply List.Mem.tail)); done) (on_of rfl) rfl) | (exact hM.loads_W32 (by (repeat (first | exact .head _ | apply List.Mem.tail)); done) (on_of rfl) (by first | omega | (simp only [Len] at *; omega) | (simp; omega))) | (exact loads_cell (by assumption) (on_of rfl)))), ?_⟩) | ((with_reducible refine gL_store hM ?_); refine ⟨_, _, _, rfl, rfl, (by (first | (exact hM.stores_B8 (by first | exact (rfl : B8 _ = B8 _) | exact lit8 _ (by decide)) (by (repeat (first | exact .here _ _ _ | apply Has.there)); done) (on_of rfl) (by first | omega | (simp only [Len] at *; omega) | (simp; omega))) | (exact hM.stores_all (by (repeat (first | exact .here _ _ _ | apply Has.there)); done) (ag_of rfl) (by first | assumption | exact Len.map (by assumption) _ | rfl | exact Len.map (by rfl) _ | exact Len.of (by simp; done)) (by first | assumption | exact Len.map (by assumption) _ | rfl | exact Len.map (by rfl) _ | exact Len.of (by simp; done)) (by first | exact B8_one | exact W32_one | exact one_of_all rfl)) | (exact hM.stores_W32 rfl (by (repeat (first | exact .here _ _ _ | apply Has.there)); done) (on_of rfl) (by first | omega | (simp only [Len] at *; omega) | (simp; omega))) | (exact hM.stores_one (by (repeat (first | exact .here _ _ _ | apply Has.there)); done) (on_of rfl) (by first | omega | (simp only [Len] at *; omega) | (simp; omega)) rfl rfl))), ?_⟩; intro _ hM2; clear hM; have hM := hM2; clear hM2) | ((with_reducible refine gL_alloc hM ?_); refine ⟨_, _, (zr_of rfl), ?_⟩; intro _ _ hM2; clear hM; have hM := hM2; clear hM2) | ((with_reducible refine gL_box hM ?_); refine ⟨_, _, _, rfl, rfl, (by first | assumption | exact Len.map (by assumption) _ | rfl | exact Len.map (by rfl) _ | exact Len.of (by simp; done)), ?_⟩; intro _ _ hM2; clear hM; have hM := hM2; clear hM2) | ((with_reducible refine gL_build0 ?_); refine ⟨_, _, _, _, _, _, (zr_of rfl), (ua_of rfl), (ag_of rfl), (el_of rfl), ?_⟩) | ((with_reducible refine gL_buildBytes hM ?_); refine ⟨_, _, (us_of rfl), (el_of rfl), (by decide), (by decide), rfl, (by (repeat (first | exact EvB.nil | apply EvB.cons rfl (by first | exact (rfl : B8 _ = B8 _) | exact lit8 _ (by decide)))); done), ?_⟩; intro _ _ hM2; clear hM; have hM := hM2; clear hM2) | ((with_reducible refine gL_append_B hM ?_); refine ⟨_, _, _, _, _, _, _, _, _, _, rfl, rfl, (by first | exact (rfl : Value.slice (some ⟨_, 0, none⟩) _ _ = sl (some _) _ _) | exact (rfl : Value.slice none _ _ = sl none _ _) | rfl), (us_of rfl), (el_of rfl), (by first | exact hM.src (by (repeat (first | exact .head _ | apply List.Mem.tail)); done) | exact (hM.bytes0 (by assumption)).src), (fun _ _ => by (repeat (first | exact .here _ _ _ | apply Swap.there)); done), (by first | assumption | exact Len.map (by assumption) _ | rfl | exact Len.map (by rfl) _ | exact Len.of (by simp; done)), (by first | assumption | exact Len.map (by assumption) _ | rfl | exact Len.map (by rfl) _ | exact Len.of (by simp; done)), (by first | assumption | (simp [maxLen]; done) | omega | (simp [maxLen]; omega)), (by first | omega | (simp only [Len] at *; omega) | (simp; omega)), ?_⟩; intro _ _ _ hM2 _ _; clear hM; have hM := hM2; clear hM2) | ((first | (with_reducible refine gL_field ?_) | ((with_reducible refine gG_field ?_ ?_); (exact wanted_of rfl rfl rfl rfl rfl))); refine ⟨_, _, rfl, (by (first | (exact field_one (fb_of rfl) rfl) | (exact field_agg (fa_of rfl) rfl))), ?_⟩))
      go_ret2
      exact ⟨none, 0, 0, rfl, rfl, by decide, (hM.drop.addNil 5)⟩
end Go.Proofs.YtejmbkljnhnklaaDoor
