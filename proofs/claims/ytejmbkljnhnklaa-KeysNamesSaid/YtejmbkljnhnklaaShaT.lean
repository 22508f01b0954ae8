/-
  The walk of sha's take: a piece.
-/
import Derived.Test.YtejmbkljnhnklaaShaW
import Derived.Test.YtejmbkljnhnklaaReg
namespace Go.Proofs.Ytejmbkljnhnklaa
open Go.RowKit Go.PK

theorem W32_len {l : List UInt32} {n : Nat} (h : l.length = n) : Len (l.map W32) n := by unfold Len; rw [List.length_map]; exact h

section
variable {G : List Nat} {w0 w : World} {L : List Blk} {g : Nat} {s : List UInt32} {b : List UInt8} {n : UInt64}
theorem loads_dig_s (hM : Mem G w0 w L) (hb : ⟨some g, 118, dig s b n, 137⟩ ∈ L) (hs : s.length = 8) : Loads Try.prog w 111 ⟨g, 0, none⟩ (.agg (s.map W32).toArray) := by
  have := hM.loads_part (P := Try.prog) (ty := 111) (off := 0) (n := 8) hb (ag_of rfl) (by simp [dig, hs])
  rwa [List.drop_zero, dig, List.take_append_of_le_length (by simp [hs]), List.take_of_length_le (by simp [hs])] at this
theorem loads_dig_n (hM : Mem G w0 w L) (hb : ⟨some g, 118, dig s b n, 137⟩ ∈ L) (hs : s.length = 8) (hbl : b.length = 64) : Loads Try.prog w 116 ⟨g, 72, none⟩ (W64 n) :=
  hM.loads_one hb (on_of rfl) (by rw [dig, List.getElem?_append_right (by simp [hs]), List.getElem?_append_right (by simp [hs, hbl])]; simp [hs, hbl])
theorem loads_dig_k (hM : Mem G w0 w L) (hb : ⟨some g, 118, dig s b n, 137⟩ ∈ L) (hs : s.length = 8) (hbl : b.length = 64) {t : Nat} (ht : t < 64) : Loads Try.prog w 110 ⟨g, 73 + t, none⟩ (W32 (gw Sha.ks t)) :=
  hM.loads_one hb (on_of rfl) (by
    rw [dig, List.getElem?_append_right (by simp [hs]; omega), List.getElem?_append_right (by simp [hs, hbl]; omega), List.length_map, List.length_map, hs, hbl, show 73 + t - 8 - 64 = t + 1 from by omega, List.getElem?_cons_succ]
    exact get_map 0 (by rw [Sha.ks_len]; exact ht))
theorem loads_dig_si (hM : Mem G w0 w L) (hb : ⟨some g, 118, dig s b n, 137⟩ ∈ L) (hs : s.length = 8) {i : Nat} (hi : i < 8) : Loads Try.prog w 110 ⟨g, i, none⟩ (W32 (gw s i)) :=
  hM.loads_one hb (on_of rfl) (by
    rw [dig, List.getElem?_append_left (by simp [hs]; omega)]
    exact get_map 0 (by rw [hs]; exact hi))
theorem dig_set_s {i : Nat} {x : UInt32} (hs : s.length = 8) (hi : i < 8) : (dig s b n).set i (W32 x) = dig (s.set i x) b n := by
  rw [dig, List.set_append_left _ _ (by simp [hs]; omega), ← List.map_set]
  rfl
theorem stores_dig_s (hM : Mem G w0 w L) {i : Nat} {x : UInt32} {L' : List Blk} (hb : Has L ⟨some g, 118, dig s b n, 137⟩ ⟨some g, 118, dig (s.set i x) b n, 137⟩ L') (hs : s.length = 8) (hi : i < 8) : Stores Try.prog G w0 w 110 ⟨g, i, none⟩ (W32 x) L' :=
  hM.stores_one (C := dig s b n) (by rw [dig_set_s hs hi]; exact hb) (on_of rfl) (by simp [dig, hs]; omega) rfl rfl
end
set_option maxRecDepth 100000 in
set_option maxHeartbeats 4000000 in


theorem sha_take (w0 : World) (g : Nat) (s : List UInt32) (b : List UInt8) (n : UInt64) (hR : Row w0 g 118 (dig s b n)) (hs : s.length = 8) (hb : b.length = 64) (v : Value) (c : List UInt8) (hv : Bytes w0 v c) (hc : c.length = 64) :
    Calls Try.prog 68 #[.pointer (some ⟨g, 0, none⟩), v] w0 fun e w' => e = .returned (.tuple #[]) ∧ Go.PK.Touch [g] w0 w' ∧ Row w' g 118 (dig (Sha.piece s c) b n) := by
  have hM := Mem.start w0
  obtain ⟨ao, cap, rfl, e1, e2, e3, e4⟩ := id hv
  obtain ⟨bk, off, rfl, hbk, -⟩ := e4 0 (by omega)
  clear e3 e4
  rw [hc] at e1
  go_enter Try.func68, Try.ntmps68
  go_wp2_with (first | ((first | ((with_reducible refine gL_alloc (dst := some 4) hM ?_); refine ⟨_, _, (zr_of rfl), ?_⟩) | ((with_reducible refine gL_box (dst := some 4) hM ?_); refine ⟨_, _, _, rfl, rfl, (by first | assumption | exact Len.map (by assumption) _ | rfl | exact Len.map (by rfl) _ | exact Len.of (by simp; done) | exact W32_len (Sha.laying_len _ _ (by omega)) | exact Len.map (W32_len (Sha.laying_len _ _ (by omega))) _ | exact dig_len (by assumption) (by assumption) | exact Len.map (dig_len (by assumption) (by assumption)) _), ?_⟩)); intro g4 _ hM2; clear hM; have hM := hM2; clear hM2) | go_skip | ((first | (with_reducible refine gL_load ?_) | ((with_reducible refine gG_load ?_ ?_); (exact wanted_of rfl rfl rfl rfl rfl))); refine ⟨_, _, rfl, (by (first | (exact loads_dig_s hM (by (repeat (first | exact .head _ | apply List.Mem.tail)); done) hs) | (exact loads_dig_n hM (by (repeat (first | exact .head _ | apply List.Mem.tail)); done) hs hb) | (assumption) | (exact hM.loads_B8 (by (repeat (first | exact .head _ | apply List.Mem.tail)); done) (on_of rfl) (by first | omega | (simp only [Len] at *; omega) | (simp; omega))) | (exact hM.loads_all (by (repeat (first | exact .head _ | apply List.Mem.tail)); done) (ag_of rfl) (by first | assumption | exact Len.map (by assumption) _ | rfl | exact Len.map (by rfl) _ | exact Len.of (by simp; done) | exact W32_len (Sha.laying_len _ _ (by omega)) | exact Len.map (W32_len (Sha.laying_len _ _ (by omega))) _ | exact dig_len (by assumption) (by assumption) | exact Len.map (dig_len (by assumption) (by assumption)) _)) | (exact hM.loads_one (by (repeat (first | exact .head _ | apply List.Mem.tail)); done) (on_of rfl) rfl) | (exact hM.loads_W32 (by (repeat (first | exact .head _ | apply List.Mem.tail)); done) (on_of rfl) (by first | omega | (simp only [Len] at *; omega) | (simp; omega))) | (exact loads_cell (by assumption) (on_of rfl)))), ?_⟩) | ((with_reducible refine gL_store hM ?_); refine ⟨_, _, _, rfl, rfl, (by (first | (exact stores_dig_s hM (by (repeat (first | exact .here _ _ _ | apply Has.there)); done) (by assumption) (by assumption)) | (exact hM.stores_B8 (by first | exact (rfl : B8 _ = B8 _) | exact lit8 _ (by decide)) (by (repeat (first | exact .here _ _ _ | apply Has.there)); done) (on_of rfl) (by first | omega | (simp only [Len] at *; omega) | (simp; omega))) | (exact hM.stores_all (by (repeat (first | exact .here _ _ _ | apply Has.there)); done) (ag_of rfl) (by first | assumption | exact Len.map (by assumption) _ | rfl | exact Len.map (by rfl) _ | exact Len.of (by simp; done) | exact W32_len (Sha.laying_len _ _ (by omega)) | exact Len.map (W32_len (Sha.laying_len _ _ (by omega))) _ | exact dig_len (by assumption) (by assumption) | exact Len.map (dig_len (by assumption) (by assumption)) _) (by first | assumption | exact Len.map (by assumption) _ | rfl | exact Len.map (by rfl) _ | exact Len.of (by simp; done) | exact W32_len (Sha.laying_len _ _ (by omega)) | exact Len.map (W32_len (Sha.laying_len _ _ (by omega))) _ | exact dig_len (by assumption) (by assumption) | exact Len.map (dig_len (by assumption) (by assumption)) _) (by first | exact B8_one | exact W32_one | exact one_of_all rfl)) | (exact hM.stores_W32 rfl (by (repeat (first | exact .here _ _ _ | apply Has.there)); done) (on_of rfl) (by first | omega | (simp only [Len] at *; omega) | (simp; omega))) | (exact hM.stores_one (by (repeat (first | exact .here _ _ _ | apply Has.there)); done) (on_of rfl) (by first | omega | (simp only [Len] at *; omega) | (simp; omega)) rfl rfl))), ?_⟩; intro _ hM2; clear hM; have hM := hM2; clear hM2) | ((with_reducible refine gL_alloc hM ?_); refine ⟨_, _, (zr_of rfl), ?_⟩; intro _ _ hM2; clear hM; have hM := hM2; clear hM2) | ((with_reducible refine gL_box hM ?_); refine ⟨_, _, _, rfl, rfl, (by first | assumption | exact Len.map (by assumption) _ | rfl | exact Len.map (by rfl) _ | exact Len.of (by simp; done) | exact W32_len (Sha.laying_len _ _ (by omega)) | exact Len.map (W32_len (Sha.laying_len _ _ (by omega))) _ | exact dig_len (by assumption) (by assumption) | exact Len.map (dig_len (by assumption) (by assumption)) _), ?_⟩; intro _ _ hM2; clear hM; have hM := hM2; clear hM2) | ((with_reducible refine gL_build0 ?_); refine ⟨_, _, _, _, _, _, (zr_of rfl), (ua_of rfl), (ag_of rfl), (el_of rfl), ?_⟩) | ((with_reducible refine gL_buildBytes hM ?_); refine ⟨_, _, (us_of rfl), (el_of rfl), (by decide), (by decide), rfl, (by (repeat (first | exact EvB.nil | apply EvB.cons rfl (by first | exact (rfl : B8 _ = B8 _) | exact lit8 _ (by decide)))); done), ?_⟩; intro _ _ hM2; clear hM; have hM := hM2; clear hM2) | ((with_reducible refine gL_append_B hM ?_); refine ⟨_, _, _, _, _, _, _, _, _, _, rfl, rfl, (by first | exact (rfl : Value.slice (some ⟨_, 0, none⟩) _ _ = sl (some _) _ _) | exact (rfl : Value.slice none _ _ = sl none _ _) | rfl), (us_of rfl), (el_of rfl), (by first | exact hM.src (by (repeat (first | exact .head _ | apply List.Mem.tail)); done) | exact (hM.bytes0 (by assumption)).src), (fun _ _ => by (repeat (first | exact .here _ _ _ | apply Swap.there)); done), (by first | assumption | exact Len.map (by assumption) _ | rfl | exact Len.map (by rfl) _ | exact Len.of (by simp; done) | exact W32_len (Sha.laying_len _ _ (by omega)) | exact Len.map (W32_len (Sha.laying_len _ _ (by omega))) _ | exact dig_len (by assumption) (by assumption) | exact Len.map (dig_len (by assumption) (by assumption)) _), (by first | assumption | exact Len.map (by assumption) _ | rfl | exact Len.map (by rfl) _ | exact Len.of (by simp; done) | exact W32_len (Sha.laying_len _ _ (by omega)) | exact Len.map (W32_len (Sha.laying_len _ _ (by omega))) _ | exact dig_len (by assumption) (by assumption) | exact Len.map (dig_len (by assumption) (by assumption)) _), (by first | assumption | (simp [maxLen]; done) | omega | (simp [maxLen]; omega)), (by first | omega | (simp only [Len] at *; omega) | (simp; omega)), ?_⟩; intro _ _ _ hM2 _ _; clear hM; have hM := hM2; clear hM2) | ((first | (with_reducible refine gL_field ?_) | ((with_reducible refine gG_field ?_ ?_); (exact wanted_of rfl rfl rfl rfl rfl))); refine ⟨_, _, rfl, (by (first | (exact field_one (fb_of rfl) rfl) | (exact field_agg (fa_of rfl) rfl))), ?_⟩))
  rw [← Sha.laying_zero c] at hM
  go_loopw [5, 7, 16] (fun _ _ i wr => ∃ t : Nat, t ≤ 16 ∧ i = .int .i64 t ∧ Mem [] w0 wr [⟨some g4, 113, (Sha.laying c t).map W32, 64⟩]) (fun _ _ i _ => 16 - (intOf i).toNat)
  case atStart => exact ⟨0, by omega, rfl, hM⟩
  case round =>
    clear hM
    obtain ⟨t, ht, rfl, hM⟩ := hrel
    by_cases hlt : t < 16
    · --[
      rw [← Sha.laying_bp0 c t hlt] at hM
      have hti : (t : Int) < 16 := by omega
      go_wp2_with (first | go_skip | ((first | (with_reducible refine gL_load ?_) | ((with_reducible refine gG_load ?_ ?_); (exact wanted_of rfl rfl rfl rfl rfl))); refine ⟨_, _, rfl, (by (first | (exact loads_dig_s hM (by (repeat (first | exact .head _ | apply List.Mem.tail)); done) hs) | (exact loads_dig_n hM (by (repeat (first | exact .head _ | apply List.Mem.tail)); done) hs hb) | (assumption) | (exact hM.loads_B8 (by (repeat (first | exact .head _ | apply List.Mem.tail)); done) (on_of rfl) (by first | omega | (simp only [Len] at *; omega) | (simp; omega))) | (exact hM.loads_all (by (repeat (first | exact .head _ | apply List.Mem.tail)); done) (ag_of rfl) (by first | assumption | exact Len.map (by assumption) _ | rfl | exact Len.map (by rfl) _ | exact Len.of (by simp; done) | exact W32_len (Sha.laying_len _ _ (by omega)) | exact Len.map (W32_len (Sha.laying_len _ _ (by omega))) _ | exact dig_len (by assumption) (by assumption) | exact Len.map (dig_len (by assumption) (by assumption)) _)) | (exact hM.loads_one (by (repeat (first | exact .head _ | apply List.Mem.tail)); done) (on_of rfl) rfl) | (exact hM.loads_W32 (by (repeat (first | exact .head _ | apply List.Mem.tail)); done) (on_of rfl) (by first | omega | (simp only [Len] at *; omega) | (simp; omega))) | (exact loads_cell (by assumption) (on_of rfl)))), ?_⟩) | ((with_reducible refine gL_store hM ?_); refine ⟨_, _, _, rfl, rfl, (by (first | (exact stores_dig_s hM (by (repeat (first | exact .here _ _ _ | apply Has.there)); done) (by assumption) (by assumption)) | (exact hM.stores_B8 (by first | exact (rfl : B8 _ = B8 _) | exact lit8 _ (by decide)) (by (repeat (first | exact .here _ _ _ | apply Has.there)); done) (on_of rfl) (by first | omega | (simp only [Len] at *; omega) | (simp; omega))) | (exact hM.stores_all (by (repeat (first | exact .here _ _ _ | apply Has.there)); done) (ag_of rfl) (by first | assumption | exact Len.map (by assumption) _ | rfl | exact Len.map (by rfl) _ | exact Len.of (by simp; done) | exact W32_len (Sha.laying_len _ _ (by omega)) | exact Len.map (W32_len (Sha.laying_len _ _ (by omega))) _ | exact dig_len (by assumption) (by assumption) | exact Len.map (dig_len (by assumption) (by assumption)) _) (by first | assumption | exact Len.map (by assumption) _ | rfl | exact Len.map (by rfl) _ | exact Len.of (by simp; done) | exact W32_len (Sha.laying_len _ _ (by omega)) | exact Len.map (W32_len (Sha.laying_len _ _ (by omega))) _ | exact dig_len (by assumption) (by assumption) | exact Len.map (dig_len (by assumption) (by assumption)) _) (by first | exact B8_one | exact W32_one | exact one_of_all rfl)) | (exact hM.stores_W32 rfl (by (repeat (first | exact .here _ _ _ | apply Has.there)); done) (on_of rfl) (by first | omega | (simp only [Len] at *; omega) | (simp; omega))) | (exact hM.stores_one (by (repeat (first | exact .here _ _ _ | apply Has.there)); done) (on_of rfl) (by first | omega | (simp only [Len] at *; omega) | (simp; omega)) rfl rfl))), ?_⟩; intro _ hM2; clear hM; have hM := hM2; clear hM2) | ((with_reducible refine gL_alloc hM ?_); refine ⟨_, _, (zr_of rfl), ?_⟩; intro _ _ hM2; clear hM; have hM := hM2; clear hM2) | ((with_reducible refine gL_box hM ?_); refine ⟨_, _, _, rfl, rfl, (by first | assumption | exact Len.map (by assumption) _ | rfl | exact Len.map (by rfl) _ | exact Len.of (by simp; done) | exact W32_len (Sha.laying_len _ _ (by omega)) | exact Len.map (W32_len (Sha.laying_len _ _ (by omega))) _ | exact dig_len (by assumption) (by assumption) | exact Len.map (dig_len (by assumption) (by assumption)) _), ?_⟩; intro _ _ hM2; clear hM; have hM := hM2; clear hM2) | ((with_reducible refine gL_build0 ?_); refine ⟨_, _, _, _, _, _, (zr_of rfl), (ua_of rfl), (ag_of rfl), (el_of rfl), ?_⟩) | ((with_reducible refine gL_buildBytes hM ?_); refine ⟨_, _, (us_of rfl), (el_of rfl), (by decide), (by decide), rfl, (by (repeat (first | exact EvB.nil | apply EvB.cons rfl (by first | exact (rfl : B8 _ = B8 _) | exact lit8 _ (by decide)))); done), ?_⟩; intro _ _ hM2; clear hM; have hM := hM2; clear hM2) | ((with_reducible refine gL_append_B hM ?_); refine ⟨_, _, _, _, _, _, _, _, _, _, rfl, rfl, (by first | exact (rfl : Value.slice (some ⟨_, 0, none⟩) _ _ = sl (some _) _ _) | exact (rfl : Value.slice none _ _ = sl none _ _) | rfl), (us_of rfl), (el_of rfl), (by first | exact hM.src (by (repeat (first | exact .head _ | apply List.Mem.tail)); done) | exact (hM.bytes0 (by assumption)).src), (fun _ _ => by (repeat (first | exact .here _ _ _ | apply Swap.there)); done), (by first | assumption | exact Len.map (by assumption) _ | rfl | exact Len.map (by rfl) _ | exact Len.of (by simp; done) | exact W32_len (Sha.laying_len _ _ (by omega)) | exact Len.map (W32_len (Sha.laying_len _ _ (by omega))) _ | exact dig_len (by assumption) (by assumption) | exact Len.map (dig_len (by assumption) (by assumption)) _), (by first | assumption | exact Len.map (by assumption) _ | rfl | exact Len.map (by rfl) _ | exact Len.of (by simp; done) | exact W32_len (Sha.laying_len _ _ (by omega)) | exact Len.map (W32_len (Sha.laying_len _ _ (by omega))) _ | exact dig_len (by assumption) (by assumption) | exact Len.map (dig_len (by assumption) (by assumption)) _), (by first | assumption | (simp [maxLen]; done) | omega | (simp [maxLen]; omega)), (by first | omega | (simp only [Len] at *; omega) | (simp; omega)), ?_⟩; intro _ _ _ hM2 _ _; clear hM; have hM := hM2; clear hM2) | ((first | (with_reducible refine gL_field ?_) | ((with_reducible refine gG_field ?_ ?_); (exact wanted_of rfl rfl rfl rfl rfl))); refine ⟨_, _, rfl, (by (first | (exact field_one (fb_of rfl) rfl) | (exact field_agg (fa_of rfl) rfl))), ?_⟩))
      simp only [Nat.add_sub_cancel_left]
      go_loopw [7, 27] (fun _ i wr => ∃ k : Nat, k ≤ 4 ∧ i = .int .i64 k ∧ Mem [] w0 wr [⟨some g4, 113, ((Sha.laying c t).set t (Sha.bp c t k)).map W32, 64⟩]) (fun _ i _ => 4 - (intOf i).toNat)
      case atStart => exact ⟨0, by omega, rfl, hM⟩
      case round =>
        clear hM
        obtain ⟨k, hk, rfl, hM⟩ := hrel
        by_cases hlk : k < 4
        · obtain ⟨b', off', he, -, hcell⟩ := (hM.bytes0 hv).at (k := 4 * t + k) (by omega)
          cases he
          have hl : ((Sha.laying c t).set t (Sha.bp c t k)).length = 64 := by rw [List.length_set]; exact Sha.laying_len _ _ (by omega)
          have hx : Hid (gw ((Sha.laying c t).set t (Sha.bp c t k)) t = Sha.bp c t k) := Lib.hid (Sha.gw_set (by rw [Sha.laying_len _ _ (by omega)]; omega) _)
          generalize hA : (Sha.laying c t).set t (Sha.bp c t k) = A at *
          have HA := Lib.hid hA
          clear hA
          replace hcell : wr.cell? ⟨bk, off + 4 * t + k, none⟩ = some (B8 (gb c (4 * t + k))) := by rw [Nat.add_assoc]; exact hcell
          go_wp2_with (first | go_skip | ((first | (with_reducible refine gL_load ?_) | ((with_reducible refine gG_load ?_ ?_); (exact wanted_of rfl rfl rfl rfl rfl))); refine ⟨_, _, rfl, (by (first | (exact loads_dig_s hM (by (repeat (first | exact .head _ | apply List.Mem.tail)); done) hs) | (exact loads_dig_n hM (by (repeat (first | exact .head _ | apply List.Mem.tail)); done) hs hb) | (assumption) | (exact hM.loads_B8 (by (repeat (first | exact .head _ | apply List.Mem.tail)); done) (on_of rfl) (by first | omega | (simp only [Len] at *; omega) | (simp; omega))) | (exact hM.loads_all (by (repeat (first | exact .head _ | apply List.Mem.tail)); done) (ag_of rfl) (by first | assumption | exact Len.map (by assumption) _ | rfl | exact Len.map (by rfl) _ | exact Len.of (by simp; done) | exact W32_len (Sha.laying_len _ _ (by omega)) | exact Len.map (W32_len (Sha.laying_len _ _ (by omega))) _ | exact dig_len (by assumption) (by assumption) | exact Len.map (dig_len (by assumption) (by assumption)) _)) | (exact hM.loads_one (by (repeat (first | exact .head _ | apply List.Mem.tail)); done) (on_of rfl) rfl) | (exact hM.loads_W32 (by (repeat (first | exact .head _ | apply List.Mem.tail)); done) (on_of rfl) (by first | omega | (simp only [Len] at *; omega) | (simp; omega))) | (exact loads_cell (by assumption) (on_of rfl)))), ?_⟩) | ((with_reducible refine gL_store hM ?_); refine ⟨_, _, _, rfl, rfl, (by (first | (exact stores_dig_s hM (by (repeat (first | exact .here _ _ _ | apply Has.there)); done) (by assumption) (by assumption)) | (exact hM.stores_B8 (by first | exact (rfl : B8 _ = B8 _) | exact lit8 _ (by decide)) (by (repeat (first | exact .here _ _ _ | apply Has.there)); done) (on_of rfl) (by first | omega | (simp only [Len] at *; omega) | (simp; omega))) | (exact hM.stores_all (by (repeat (first | exact .here _ _ _ | apply Has.there)); done) (ag_of rfl) (by first | assumption | exact Len.map (by assumption) _ | rfl | exact Len.map (by rfl) _ | exact Len.of (by simp; done) | exact W32_len (Sha.laying_len _ _ (by omega)) | exact Len.map (W32_len (Sha.laying_len _ _ (by omega))) _ | exact dig_len (by assumption) (by assumption) | exact Len.map (dig_len (by assumption) (by assumption)) _) (by first | assumption | exact Len.map (by assumption) _ | rfl | exact Len.map (by rfl) _ | exact Len.of (by simp; done) | exact W32_len (Sha.laying_len _ _ (by omega)) | exact Len.map (W32_len (Sha.laying_len _ _ (by omega))) _ | exact dig_len (by assumption) (by assumption) | exact Len.map (dig_len (by assumption) (by assumption)) _) (by first | exact B8_one | exact W32_one | exact one_of_all rfl)) | (exact hM.stores_W32 rfl (by (repeat (first | exact .here _ _ _ | apply Has.there)); done) (on_of rfl) (by first | omega | (simp only [Len] at *; omega) | (simp; omega))) | (exact hM.stores_one (by (repeat (first | exact .here _ _ _ | apply Has.there)); done) (on_of rfl) (by first | omega | (simp only [Len] at *; omega) | (simp; omega)) rfl rfl))), ?_⟩; intro _ hM2; clear hM; have hM := hM2; clear hM2) | ((with_reducible refine gL_alloc hM ?_); refine ⟨_, _, (zr_of rfl), ?_⟩; intro _ _ hM2; clear hM; have hM := hM2; clear hM2) | ((with_reducible refine gL_box hM ?_); refine ⟨_, _, _, rfl, rfl, (by first | assumption | exact Len.map (by assumption) _ | rfl | exact Len.map (by rfl) _ | exact Len.of (by simp; done) | exact W32_len (Sha.laying_len _ _ (by omega)) | exact Len.map (W32_len (Sha.laying_len _ _ (by omega))) _ | exact dig_len (by assumption) (by assumption) | exact Len.map (dig_len (by assumption) (by assumption)) _), ?_⟩; intro _ _ hM2; clear hM; have hM := hM2; clear hM2) | ((with_reducible refine gL_build0 ?_); refine ⟨_, _, _, _, _, _, (zr_of rfl), (ua_of rfl), (ag_of rfl), (el_of rfl), ?_⟩) | ((with_reducible refine gL_buildBytes hM ?_); refine ⟨_, _, (us_of rfl), (el_of rfl), (by decide), (by decide), rfl, (by (repeat (first | exact EvB.nil | apply EvB.cons rfl (by first | exact (rfl : B8 _ = B8 _) | exact lit8 _ (by decide)))); done), ?_⟩; intro _ _ hM2; clear hM; have hM := hM2; clear hM2) | ((with_reducible refine gL_append_B hM ?_); refine ⟨_, _, _, _, _, _, _, _, _, _, rfl, rfl, (by first | exact (rfl : Value.slice (some ⟨_, 0, none⟩) _ _ = sl (some _) _ _) | exact (rfl : Value.slice none _ _ = sl none _ _) | rfl), (us_of rfl), (el_of rfl), (by first | exact hM.src (by (repeat (first | exact .head _ | apply List.Mem.tail)); done) | exact (hM.bytes0 (by assumption)).src), (fun _ _ => by (repeat (first | exact .here _ _ _ | apply Swap.there)); done), (by first | assumption | exact Len.map (by assumption) _ | rfl | exact Len.map (by rfl) _ | exact Len.of (by simp; done) | exact W32_len (Sha.laying_len _ _ (by omega)) | exact Len.map (W32_len (Sha.laying_len _ _ (by omega))) _ | exact dig_len (by assumption) (by assumption) | exact Len.map (dig_len (by assumption) (by assumption)) _), (by first | assumption | exact Len.map (by assumption) _ | rfl | exact Len.map (by rfl) _ | exact Len.of (by simp; done) | exact W32_len (Sha.laying_len _ _ (by omega)) | exact Len.map (W32_len (Sha.laying_len _ _ (by omega))) _ | exact dig_len (by assumption) (by assumption) | exact Len.map (dig_len (by assumption) (by assumption)) _), (by first | assumption | (simp [maxLen]; done) | omega | (simp [maxLen]; omega)), (by first | omega | (simp only [Len] at *; omega) | (simp; omega)), ?_⟩; intro _ _ _ hM2 _ _; clear hM; have hM := hM2; clear hM2) | ((first | (with_reducible refine gL_field ?_) | ((with_reducible refine gG_field ?_ ?_); (exact wanted_of rfl rfl rfl rfl rfl))); refine ⟨_, _, rfl, (by (first | (exact field_one (fb_of rfl) rfl) | (exact field_agg (fa_of rfl) rfl))), ?_⟩))
          go_roundw
          case rel =>
            refine ⟨k + 1, by omega, by go_num, ?_⟩
            rw [Sha.bp, ← hx.out, ← List.set_set (a := Sha.bp c t k), HA.out]
            exact hM
          case measure => simp [intOf]; omega
        · have : k = 4 := by omega
          subst this
          rw [Sha.laying_bp c t hlt] at hM
          go_wp2_with (first | go_skip | ((first | (with_reducible refine gL_load ?_) | ((with_reducible refine gG_load ?_ ?_); (exact wanted_of rfl rfl rfl rfl rfl))); refine ⟨_, _, rfl, (by (first | (exact loads_dig_s hM (by (repeat (first | exact .head _ | apply List.Mem.tail)); done) hs) | (exact loads_dig_n hM (by (repeat (first | exact .head _ | apply List.Mem.tail)); done) hs hb) | (assumption) | (exact hM.loads_B8 (by (repeat (first | exact .head _ | apply List.Mem.tail)); done) (on_of rfl) (by first | omega | (simp only [Len] at *; omega) | (simp; omega))) | (exact hM.loads_all (by (repeat (first | exact .head _ | apply List.Mem.tail)); done) (ag_of rfl) (by first | assumption | exact Len.map (by assumption) _ | rfl | exact Len.map (by rfl) _ | exact Len.of (by simp; done) | exact W32_len (Sha.laying_len _ _ (by omega)) | exact Len.map (W32_len (Sha.laying_len _ _ (by omega))) _ | exact dig_len (by assumption) (by assumption) | exact Len.map (dig_len (by assumption) (by assumption)) _)) | (exact hM.loads_one (by (repeat (first | exact .head _ | apply List.Mem.tail)); done) (on_of rfl) rfl) | (exact hM.loads_W32 (by (repeat (first | exact .head _ | apply List.Mem.tail)); done) (on_of rfl) (by first | omega | (simp only [Len] at *; omega) | (simp; omega))) | (exact loads_cell (by assumption) (on_of rfl)))), ?_⟩) | ((with_reducible refine gL_store hM ?_); refine ⟨_, _, _, rfl, rfl, (by (first | (exact stores_dig_s hM (by (repeat (first | exact .here _ _ _ | apply Has.there)); done) (by assumption) (by assumption)) | (exact hM.stores_B8 (by first | exact (rfl : B8 _ = B8 _) | exact lit8 _ (by decide)) (by (repeat (first | exact .here _ _ _ | apply Has.there)); done) (on_of rfl) (by first | omega | (simp only [Len] at *; omega) | (simp; omega))) | (exact hM.stores_all (by (repeat (first | exact .here _ _ _ | apply Has.there)); done) (ag_of rfl) (by first | assumption | exact Len.map (by assumption) _ | rfl | exact Len.map (by rfl) _ | exact Len.of (by simp; done) | exact W32_len (Sha.laying_len _ _ (by omega)) | exact Len.map (W32_len (Sha.laying_len _ _ (by omega))) _ | exact dig_len (by assumption) (by assumption) | exact Len.map (dig_len (by assumption) (by assumption)) _) (by first | assumption | exact Len.map (by assumption) _ | rfl | exact Len.map (by rfl) _ | exact Len.of (by simp; done) | exact W32_len (Sha.laying_len _ _ (by omega)) | exact Len.map (W32_len (Sha.laying_len _ _ (by omega))) _ | exact dig_len (by assumption) (by assumption) | exact Len.map (dig_len (by assumption) (by assumption)) _) (by first | exact B8_one | exact W32_one | exact one_of_all rfl)) | (exact hM.stores_W32 rfl (by (repeat (first | exact .here _ _ _ | apply Has.there)); done) (on_of rfl) (by first | omega | (simp only [Len] at *; omega) | (simp; omega))) | (exact hM.stores_one (by (repeat (first | exact .here _ _ _ | apply Has.there)); done) (on_of rfl) (by first | omega | (simp only [Len] at *; omega) | (simp; omega)) rfl rfl))), ?_⟩; intro _ hM2; clear hM; have hM := hM2; clear hM2) | ((with_reducible refine gL_alloc hM ?_); refine ⟨_, _, (zr_of rfl), ?_⟩; intro _ _ hM2; clear hM; have hM := hM2; clear hM2) | ((with_reducible refine gL_box hM ?_); refine ⟨_, _, _, rfl, rfl, (by first | assumption | exact Len.map (by assumption) _ | rfl | exact Len.map (by rfl) _ | exact Len.of (by simp; done) | exact W32_len (Sha.laying_len _ _ (by omega)) | exact Len.map (W32_len (Sha.laying_len _ _ (by omega))) _ | exact dig_len (by assumption) (by assumption) | exact Len.map (dig_len (by assumption) (by assumption)) _), ?_⟩; intro _ _ hM2; clear hM; have hM := hM2; clear hM2) | ((with_reducible refine gL_build0 ?_); refine ⟨_, _, _, _, _, _, (zr_of rfl), (ua_of rfl), (ag_of rfl), (el_of rfl), ?_⟩) | ((with_reducible refine gL_buildBytes hM ?_); refine ⟨_, _, (us_of rfl), (el_of rfl), (by decide), (by decide), rfl, (by (repeat (first | exact EvB.nil | apply EvB.cons rfl (by first | exact (rfl : B8 _ = B8 _) | exact lit8 _ (by decide)))); done), ?_⟩; intro _ _ hM2; clear hM; have hM := hM2; clear hM2) | ((with_reducible refine gL_append_B hM ?_); refine ⟨_, _, _, _, _, _, _, _, _, _, rfl, rfl, (by first | exact (rfl : Value.slice (some ⟨_, 0, none⟩) _ _ = sl (some _) _ _) | exact (rfl : Value.slice none _ _ = sl none _ _) | rfl), (us_of rfl), (el_of rfl), (by first | exact hM.src (by (repeat (first | exact .head _ | apply List.Mem.tail)); done) | exact (hM.bytes0 (by assumption)).src), (fun _ _ => by (repeat (first | exact .here _ _ _ | apply Swap.there)); done), (by first | assumption | exact Len.map (by assumption) _ | rfl | exact Len.map (by rfl) _ | exact Len.of (by simp; done) | exact W32_len (Sha.laying_len _ _ (by omega)) | exact Len.map (W32_len (Sha.laying_len _ _ (by omega))) _ | exact dig_len (by assumption) (by assumption) | exact Len.map (dig_len (by assumption) (by assumption)) _), (by first | assumption | exact Len.map (by assumption) _ | rfl | exact Len.map (by rfl) _ | exact Len.of (by simp; done) | exact W32_len (Sha.laying_len _ _ (by omega)) | exact Len.map (W32_len (Sha.laying_len _ _ (by omega))) _ | exact dig_len (by assumption) (by assumption) | exact Len.map (dig_len (by assumption) (by assumption)) _), (by first | assumption | (simp [maxLen]; done) | omega | (simp [maxLen]; omega)), (by first | omega | (simp only [Len] at *; omega) | (simp; omega)), ?_⟩; intro _ _ _ hM2 _ _; clear hM; have hM := hM2; clear hM2) | ((first | (with_reducible refine gL_field ?_) | ((with_reducible refine gG_field ?_ ?_); (exact wanted_of rfl rfl rfl rfl rfl))); refine ⟨_, _, rfl, (by (first | (exact field_one (fb_of rfl) rfl) | (exact field_agg (fa_of rfl) rfl))), ?_⟩))
          go_roundw
          case rel => exact ⟨t + 1, by omega, by go_num, hM⟩
          case measure => simp [intOf]; omega
      --]
    · have : t = 16 := by omega
      subst this
      go_wp2_with (first | go_skip | ((first | (with_reducible refine gL_load ?_) | ((with_reducible refine gG_load ?_ ?_); (exact wanted_of rfl rfl rfl rfl rfl))); refine ⟨_, _, rfl, (by (first | (exact loads_dig_s hM (by (repeat (first | exact .head _ | apply List.Mem.tail)); done) hs) | (exact loads_dig_n hM (by (repeat (first | exact .head _ | apply List.Mem.tail)); done) hs hb) | (assumption) | (exact hM.loads_B8 (by (repeat (first | exact .head _ | apply List.Mem.tail)); done) (on_of rfl) (by first | omega | (simp only [Len] at *; omega) | (simp; omega))) | (exact hM.loads_all (by (repeat (first | exact .head _ | apply List.Mem.tail)); done) (ag_of rfl) (by first | assumption | exact Len.map (by assumption) _ | rfl | exact Len.map (by rfl) _ | exact Len.of (by simp; done) | exact W32_len (Sha.laying_len _ _ (by omega)) | exact Len.map (W32_len (Sha.laying_len _ _ (by omega))) _ | exact dig_len (by assumption) (by assumption) | exact Len.map (dig_len (by assumption) (by assumption)) _)) | (exact hM.loads_one (by (repeat (first | exact .head _ | apply List.Mem.tail)); done) (on_of rfl) rfl) | (exact hM.loads_W32 (by (repeat (first | exact .head _ | apply List.Mem.tail)); done) (on_of rfl) (by first | omega | (simp only [Len] at *; omega) | (simp; omega))) | (exact loads_cell (by assumption) (on_of rfl)))), ?_⟩) | ((with_reducible refine gL_store hM ?_); refine ⟨_, _, _, rfl, rfl, (by (first | (exact stores_dig_s hM (by (repeat (first | exact .here _ _ _ | apply Has.there)); done) (by assumption) (by assumption)) | (exact hM.stores_B8 (by first | exact (rfl : B8 _ = B8 _) | exact lit8 _ (by decide)) (by (repeat (first | exact .here _ _ _ | apply Has.there)); done) (on_of rfl) (by first | omega | (simp only [Len] at *; omega) | (simp; omega))) | (exact hM.stores_all (by (repeat (first | exact .here _ _ _ | apply Has.there)); done) (ag_of rfl) (by first | assumption | exact Len.map (by assumption) _ | rfl | exact Len.map (by rfl) _ | exact Len.of (by simp; done) | exact W32_len (Sha.laying_len _ _ (by omega)) | exact Len.map (W32_len (Sha.laying_len _ _ (by omega))) _ | exact dig_len (by assumption) (by assumption) | exact Len.map (dig_len (by assumption) (by assumption)) _) (by first | assumption | exact Len.map (by assumption) _ | rfl | exact Len.map (by rfl) _ | exact Len.of (by simp; done) | exact W32_len (Sha.laying_len _ _ (by omega)) | exact Len.map (W32_len (Sha.laying_len _ _ (by omega))) _ | exact dig_len (by assumption) (by assumption) | exact Len.map (dig_len (by assumption) (by assumption)) _) (by first | exact B8_one | exact W32_one | exact one_of_all rfl)) | (exact hM.stores_W32 rfl (by (repeat (first | exact .here _ _ _ | apply Has.there)); done) (on_of rfl) (by first | omega | (simp only [Len] at *; omega) | (simp; omega))) | (exact hM.stores_one (by (repeat (first | exact .here _ _ _ | apply Has.there)); done) (on_of rfl) (by first | omega | (simp only [Len] at *; omega) | (simp; omega)) rfl rfl))), ?_⟩; intro _ hM2; clear hM; have hM := hM2; clear hM2) | ((with_reducible refine gL_alloc hM ?_); refine ⟨_, _, (zr_of rfl), ?_⟩; intro _ _ hM2; clear hM; have hM := hM2; clear hM2) | ((with_reducible refine gL_box hM ?_); refine ⟨_, _, _, rfl, rfl, (by first | assumption | exact Len.map (by assumption) _ | rfl | exact Len.map (by rfl) _ | exact Len.of (by simp; done) | exact W32_len (Sha.laying_len _ _ (by omega)) | exact Len.map (W32_len (Sha.laying_len _ _ (by omega))) _ | exact dig_len (by assumption) (by assumption) | exact Len.map (dig_len (by assumption) (by assumption)) _), ?_⟩; intro _ _ hM2; clear hM; have hM := hM2; clear hM2) | ((with_reducible refine gL_build0 ?_); refine ⟨_, _, _, _, _, _, (zr_of rfl), (ua_of rfl), (ag_of rfl), (el_of rfl), ?_⟩) | ((with_reducible refine gL_buildBytes hM ?_); refine ⟨_, _, (us_of rfl), (el_of rfl), (by decide), (by decide), rfl, (by (repeat (first | exact EvB.nil | apply EvB.cons rfl (by first | exact (rfl : B8 _ = B8 _) | exact lit8 _ (by decide)))); done), ?_⟩; intro _ _ hM2; clear hM; have hM := hM2; clear hM2) | ((with_reducible refine gL_append_B hM ?_); refine ⟨_, _, _, _, _, _, _, _, _, _, rfl, rfl, (by first | exact (rfl : Value.slice (some ⟨_, 0, none⟩) _ _ = sl (some _) _ _) | exact (rfl : Value.slice none _ _ = sl none _ _) | rfl), (us_of rfl), (el_of rfl), (by first | exact hM.src (by (repeat (first | exact .head _ | apply List.Mem.tail)); done) | exact (hM.bytes0 (by assumption)).src), (fun _ _ => by (repeat (first | exact .here _ _ _ | apply Swap.there)); done), (by first | assumption | exact Len.map (by assumption) _ | rfl | exact Len.map (by rfl) _ | exact Len.of (by simp; done) | exact W32_len (Sha.laying_len _ _ (by omega)) | exact Len.map (W32_len (Sha.laying_len _ _ (by omega))) _ | exact dig_len (by assumption) (by assumption) | exact Len.map (dig_len (by assumption) (by assumption)) _), (by first | assumption | exact Len.map (by assumption) _ | rfl | exact Len.map (by rfl) _ | exact Len.of (by simp; done) | exact W32_len (Sha.laying_len _ _ (by omega)) | exact Len.map (W32_len (Sha.laying_len _ _ (by omega))) _ | exact dig_len (by assumption) (by assumption) | exact Len.map (dig_len (by assumption) (by assumption)) _), (by first | assumption | (simp [maxLen]; done) | omega | (simp [maxLen]; omega)), (by first | omega | (simp only [Len] at *; omega) | (simp; omega)), ?_⟩; intro _ _ _ hM2 _ _; clear hM; have hM := hM2; clear hM2) | ((first | (with_reducible refine gL_field ?_) | ((with_reducible refine gG_field ?_ ?_); (exact wanted_of rfl rfl rfl rfl rfl))); refine ⟨_, _, rfl, (by (first | (exact field_one (fb_of rfl) rfl) | (exact field_agg (fa_of rfl) rfl))), ?_⟩))
      rw [show Value.int IntKind.i64 ((16 : Nat) : Int) = Value.int IntKind.i64 16 from rfl]
      go_loopw [8, 9, 10] (fun i _ _ wr => ∃ t : Nat, 16 ≤ t ∧ t ≤ 64 ∧ i = .int .i64 t ∧ Mem [] w0 wr [⟨some g4, 113, (Sha.laying c t).map W32, 64⟩]) (fun i _ _ _ => 64 - (intOf i).toNat)
      case atStart => exact ⟨16, by omega, by omega, rfl, hM⟩
      case round =>
        clear hM
        obtain ⟨t, ht1, ht2, rfl, hM⟩ := hrel
        by_cases hlt : t < 64
        · --[
          have hti : (t : Int) < 64 := by omega
          have hl := Sha.laying_len c t (by omega)
          generalize hA : Sha.laying c t = A at *
          have HA := Lib.hid hA
          clear hA
          go_wp2_with (first | go_skip | ((first | (with_reducible refine gL_load ?_) | ((with_reducible refine gG_load ?_ ?_); (exact wanted_of rfl rfl rfl rfl rfl))); refine ⟨_, _, rfl, (by (first | (exact loads_dig_s hM (by (repeat (first | exact .head _ | apply List.Mem.tail)); done) hs) | (exact loads_dig_n hM (by (repeat (first | exact .head _ | apply List.Mem.tail)); done) hs hb) | (assumption) | (exact hM.loads_B8 (by (repeat (first | exact .head _ | apply List.Mem.tail)); done) (on_of rfl) (by first | omega | (simp only [Len] at *; omega) | (simp; omega))) | (exact hM.loads_all (by (repeat (first | exact .head _ | apply List.Mem.tail)); done) (ag_of rfl) (by first | assumption | exact Len.map (by assumption) _ | rfl | exact Len.map (by rfl) _ | exact Len.of (by simp; done) | exact W32_len (Sha.laying_len _ _ (by omega)) | exact Len.map (W32_len (Sha.laying_len _ _ (by omega))) _ | exact dig_len (by assumption) (by assumption) | exact Len.map (dig_len (by assumption) (by assumption)) _)) | (exact hM.loads_one (by (repeat (first | exact .head _ | apply List.Mem.tail)); done) (on_of rfl) rfl) | (exact hM.loads_W32 (by (repeat (first | exact .head _ | apply List.Mem.tail)); done) (on_of rfl) (by first | omega | (simp only [Len] at *; omega) | (simp; omega))) | (exact loads_cell (by assumption) (on_of rfl)))), ?_⟩) | ((with_reducible refine gL_store hM ?_); refine ⟨_, _, _, rfl, rfl, (by (first | (exact stores_dig_s hM (by (repeat (first | exact .here _ _ _ | apply Has.there)); done) (by assumption) (by assumption)) | (exact hM.stores_B8 (by first | exact (rfl : B8 _ = B8 _) | exact lit8 _ (by decide)) (by (repeat (first | exact .here _ _ _ | apply Has.there)); done) (on_of rfl) (by first | omega | (simp only [Len] at *; omega) | (simp; omega))) | (exact hM.stores_all (by (repeat (first | exact .here _ _ _ | apply Has.there)); done) (ag_of rfl) (by first | assumption | exact Len.map (by assumption) _ | rfl | exact Len.map (by rfl) _ | exact Len.of (by simp; done) | exact W32_len (Sha.laying_len _ _ (by omega)) | exact Len.map (W32_len (Sha.laying_len _ _ (by omega))) _ | exact dig_len (by assumption) (by assumption) | exact Len.map (dig_len (by assumption) (by assumption)) _) (by first | assumption | exact Len.map (by assumption) _ | rfl | exact Len.map (by rfl) _ | exact Len.of (by simp; done) | exact W32_len (Sha.laying_len _ _ (by omega)) | exact Len.map (W32_len (Sha.laying_len _ _ (by omega))) _ | exact dig_len (by assumption) (by assumption) | exact Len.map (dig_len (by assumption) (by assumption)) _) (by first | exact B8_one | exact W32_one | exact one_of_all rfl)) | (exact hM.stores_W32 rfl (by (repeat (first | exact .here _ _ _ | apply Has.there)); done) (on_of rfl) (by first | omega | (simp only [Len] at *; omega) | (simp; omega))) | (exact hM.stores_one (by (repeat (first | exact .here _ _ _ | apply Has.there)); done) (on_of rfl) (by first | omega | (simp only [Len] at *; omega) | (simp; omega)) rfl rfl))), ?_⟩; intro _ hM2; clear hM; have hM := hM2; clear hM2) | ((with_reducible refine gL_alloc hM ?_); refine ⟨_, _, (zr_of rfl), ?_⟩; intro _ _ hM2; clear hM; have hM := hM2; clear hM2) | ((with_reducible refine gL_box hM ?_); refine ⟨_, _, _, rfl, rfl, (by first | assumption | exact Len.map (by assumption) _ | rfl | exact Len.map (by rfl) _ | exact Len.of (by simp; done) | exact W32_len (Sha.laying_len _ _ (by omega)) | exact Len.map (W32_len (Sha.laying_len _ _ (by omega))) _ | exact dig_len (by assumption) (by assumption) | exact Len.map (dig_len (by assumption) (by assumption)) _), ?_⟩; intro _ _ hM2; clear hM; have hM := hM2; clear hM2) | ((with_reducible refine gL_build0 ?_); refine ⟨_, _, _, _, _, _, (zr_of rfl), (ua_of rfl), (ag_of rfl), (el_of rfl), ?_⟩) | ((with_reducible refine gL_buildBytes hM ?_); refine ⟨_, _, (us_of rfl), (el_of rfl), (by decide), (by decide), rfl, (by (repeat (first | exact EvB.nil | apply EvB.cons rfl (by first | exact (rfl : B8 _ = B8 _) | exact lit8 _ (by decide)))); done), ?_⟩; intro _ _ hM2; clear hM; have hM := hM2; clear hM2) | ((with_reducible refine gL_append_B hM ?_); refine ⟨_, _, _, _, _, _, _, _, _, _, rfl, rfl, (by first | exact (rfl : Value.slice (some ⟨_, 0, none⟩) _ _ = sl (some _) _ _) | exact (rfl : Value.slice none _ _ = sl none _ _) | rfl), (us_of rfl), (el_of rfl), (by first | exact hM.src (by (repeat (first | exact .head _ | apply List.Mem.tail)); done) | exact (hM.bytes0 (by assumption)).src), (fun _ _ => by (repeat (first | exact .here _ _ _ | apply Swap.there)); done), (by first | assumption | exact Len.map (by assumption) _ | rfl | exact Len.map (by rfl) _ | exact Len.of (by simp; done) | exact W32_len (Sha.laying_len _ _ (by omega)) | exact Len.map (W32_len (Sha.laying_len _ _ (by omega))) _ | exact dig_len (by assumption) (by assumption) | exact Len.map (dig_len (by assumption) (by assumption)) _), (by first | assumption | exact Len.map (by assumption) _ | rfl | exact Len.map (by rfl) _ | exact Len.of (by simp; done) | exact W32_len (Sha.laying_len _ _ (by omega)) | exact Len.map (W32_len (Sha.laying_len _ _ (by omega))) _ | exact dig_len (by assumption) (by assumption) | exact Len.map (dig_len (by assumption) (by assumption)) _), (by first | assumption | (simp [maxLen]; done) | omega | (simp [maxLen]; omega)), (by first | omega | (simp only [Len] at *; omega) | (simp; omega)), ?_⟩; intro _ _ _ hM2 _ _; clear hM; have hM := hM2; clear hM2) | ((first | (with_reducible refine gL_field ?_) | ((with_reducible refine gG_field ?_ ?_); (exact wanted_of rfl rfl rfl rfl rfl))); refine ⟨_, _, rfl, (by (first | (exact field_one (fb_of rfl) rfl) | (exact field_agg (fa_of rfl) rfl))), ?_⟩))
          try simp only [Act.put, List.setIfInBounds_toArray, List.set_cons_succ, List.set_cons_zero]
          refine wp_region_tail 10 (by decide) (fun c vals => ⟨#[c 0, c 1, c 2, c 3, (Value.pointer (some ⟨g4, 0, none⟩) : Value), c 5, c 6, c 7, (Value.int .i64 ((t : Nat) : Int) : Value), vals 8, vals 9, c 11, c 12, c 13, c 14, c 15, c 16, c 17, c 18, c 19, c 20, c 21, c 22, c 23, c 24, c 25, c 26, c 27, c 28, c 29, c 30, c 31, c 32, c 33, c 34, c 35, c 36, c 37, c 38, c 39, c 40, c 41, c 42, c 43, c 44, c 45, vals 0, vals 1, vals 2, vals 3, vals 4, vals 5, vals 6, vals 7, c 54, c 55, c 56, c 57, c 58, c 59, c 60, c 61, c 62, c 63, c 64, c 65, c 66, c 67, c 68, c 69, c 70, c 71, c 72, c 73, c 74, c 75, c 76, c 77, c 78, c 79, c 80, c 81, c 82, c 83, c 84, c 85, c 86, c 87, c 88, c 89, c 90, c 91, c 92, c 93, c 94, c 95, c 96, c 97, c 98, c 99, c 100, c 101, c 102, c 103, c 104, c 105, c 106, c 107, c 108, c 109, c 110, c 111, c 112, c 113, c 114, c 115, c 116, c 117, c 118, c 119, c 120, c 121, c 122, c 123, c 124, c 125, c 126, c 127, c 128, c 129, c 130, c 131, c 132, c 133, c 134, c 135, c 136, c 137, c 138, c 139, c 140, c 141, c 142, c 143, c 144, c 145, c 146, c 147, c 148, c 149, c 150, c 151, c 152, c 153, c 154, c 155, c 156, c 157, c 158, c 159, c 160, c 161, c 162, c 163, c 164, c 165, c 166, c 167, c 168, c 169, c 170, c 171, c 172, c 173, c 174, c 175, c 176, c 177, c 178, c 179, c 180, c 181, c 182, c 183, c 184, c 185, c 186, c 187, c 188, c 189, c 190, c 191, c 192, c 193, c 194], []⟩) (fun t => [_, _, _, _, undef, _, _, _, undef, undef, undef, _, _, _, _, _, _, _, _, _, _, _, _, _, _, _, _, _, _, _, _, _, _, _, _, _, _, _, _, _, _, _, _, _, _, _, undef, undef, undef, undef, undef, undef, undef, undef, _, _, _, _, _, _, _, _, _, _, _, _, _, _, _, _, _, _, _, _, _, _, _, _, _, _, _, _, _, _, _, _, _, _, _, _, _, _, _, _, _, _, _, _, _, _, _, _, _, _, _, _, _, _, _, _, _, _, _, _, _, _, _, _, _, _, _, _, _, _, _, _, _, _, _, _, _, _, _, _, _, _, _, _, _, _, _, _, _, _, _, _, _, _, _, _, _, _, _, _, _, _, _, _, _, _, _, _, _, _, _, _, _, _, _, _, _, _, _, _, _, _, _, _, _, _, _, _, _, _, _, _, _, _, _, _, _, _, _, _, _].getD t undef) (fun i => [_, _, _, _, _, _, _, _, _, _].getD i undef) (by kernel_rfl)
            [[], [0], [0, 1], [0, 1, 2], [], [4], [4, 5], [4, 5, 6], [0, 1, 2, 3], [0, 1, 2, 3, 4, 5, 6, 7, 8]] (by kernel_rfl) (by kernel_rfl) (fun _ => True) trivial
            [fun x _ => x = (Value.int .i64 ((t : Nat) : Int) : Value),
             fun x _ => x = (Value.int .i64 ((t - 15 : Nat) : Int) : Value),
             fun x _ => x = (Value.pointer (some ⟨g4, t - 15, none⟩) : Value),
             fun x _ => x = (W32 (gw A (t - 15)) : Value),
             fun x _ => x = (Value.int .i64 ((t : Nat) : Int) : Value),
             fun x _ => x = (Value.int .i64 ((t - 2 : Nat) : Int) : Value),
             fun x _ => x = (Value.pointer (some ⟨g4, t - 2, none⟩) : Value),
             fun x _ => x = (W32 (gw A (t - 2)) : Value),
             fun x _ => x = (W32 (gw A (t - 15)) : Value),
             fun x _ => x = (W32 (gw A (t - 2)) : Value)]
            ⟨fun _ _ _ h _ => h, fun _ _ _ h _ => h, fun _ _ _ h _ => h, fun _ _ _ h _ => h, fun _ _ _ h _ => h, fun _ _ _ h _ => h, fun _ _ _ h _ => h, fun _ _ _ h _ => h, fun _ _ _ h _ => h, fun _ _ _ h _ => h, trivial⟩ []
            ⟨?_, ?_, ?_, ?_, ?_, ?_, ?_, ?_, ?_, ?_, trivial⟩ ?_
          · refine showA_op 0 (by intro _ _ _; kernel_rfl) rfl rfl (fun c vals w hC hD => ?_)
            clear hD
            refine makes1 (x := .tmp 8) (X := Value.int .i64 ((t : Nat) : Int)) (by kernel_rfl : _ = (Value.int .i64 ((t : Nat) : Int) : Value)) (fun ρ rc rf q8 => ?_)
            exact makes_move (.inl rfl) q8 ⟨Adds.refl _, rfl⟩
          · refine showA_op 1 (by intro _ _ _; kernel_rfl) rfl rfl (fun c vals w hC hD => ?_)
            have h0 : vals 0 = .int .i64 ((t : Nat) : Int) := hD 0 rfl
            clear hD
            refine makes1 (x := .tmp 46) (X := Value.int .i64 ((t : Nat) : Int)) ((by kernel_rfl : _ = vals 0).trans h0) (fun ρ rc rf q46 => ?_)
            clear h0
            refine makes_value (v := Value.int .i64 ((t - 15 : Nat) : Int)) ?_ ⟨Adds.refl _, rfl⟩
            go_simp
            all_goals first | done | rfl | (rw [if_pos (by omega)]; refine congrArg (fun x => Result.ok (Next.value (Value.pointer (some ⟨_, x, none⟩))) _) ?_; omega) | (rw [wrapP_i64]; omega) | go_num | (simp; done) | (simp; omega) | (congr 1; first | rfl | (rw [wrapP_i64]; omega) | (congr 1; first | rfl | (simp; done) | (simp; omega) | (congr 2; omega) | go_num))
          · refine showA_op 2 (by intro _ _ _; kernel_rfl) rfl rfl (fun c vals w hC hD => ?_)
            have h1 : vals 1 = .int .i64 ((t - 15 : Nat) : Int) := hD 1 rfl
            clear hD
            refine makes2 (x := .tmp 4) (X := Value.pointer (some ⟨g4, 0, none⟩)) (y := .tmp 47) (Y := Value.int .i64 ((t - 15 : Nat) : Int)) (by kernel_rfl : _ = (Value.pointer (some ⟨g4, 0, none⟩) : Value)) ((by kernel_rfl : _ = vals 1).trans h1) (fun ρ rc rf q4 q47 => ?_)
            clear h1
            refine makes_value (v := Value.pointer (some ⟨g4, t - 15, none⟩)) ?_ ⟨Adds.refl _, rfl⟩
            go_simp
            all_goals first | done | rfl | (rw [if_pos (by omega)]; refine congrArg (fun x => Result.ok (Next.value (Value.pointer (some ⟨_, x, none⟩))) _) ?_; omega) | (rw [wrapP_i64]; omega) | go_num | (simp; done) | (simp; omega) | (congr 1; first | rfl | (rw [wrapP_i64]; omega) | (congr 1; first | rfl | (simp; done) | (simp; omega) | (congr 2; omega) | go_num))
          · refine showA_op 3 (by intro _ _ _; kernel_rfl) rfl rfl (fun c vals w hC hD => ?_)
            have h2 : vals 2 = .pointer (some ⟨g4, t - 15, none⟩) := hD 2 rfl
            clear hD
            refine makes1 (x := .tmp 48) (X := Value.pointer (some ⟨g4, t - 15, none⟩)) ((by kernel_rfl : _ = vals 2).trans h2) (fun ρ rc rf q48 => ?_)
            clear h2
            exact makes_load ((hM.adds hC).loads_W32 (by (repeat (first | exact .head _ | apply List.Mem.tail)); done) (on_of rfl) (by first | omega | (simp only [Len] at *; omega) | (simp; omega))) rfl q48 ⟨Adds.refl _, rfl⟩
          · refine showA_op 4 (by intro _ _ _; kernel_rfl) rfl rfl (fun c vals w hC hD => ?_)
            clear hD
            refine makes1 (x := .tmp 8) (X := Value.int .i64 ((t : Nat) : Int)) (by kernel_rfl : _ = (Value.int .i64 ((t : Nat) : Int) : Value)) (fun ρ rc rf q8 => ?_)
            exact makes_move (.inl rfl) q8 ⟨Adds.refl _, rfl⟩
          · refine showA_op 5 (by intro _ _ _; kernel_rfl) rfl rfl (fun c vals w hC hD => ?_)
            have h4 : vals 4 = .int .i64 ((t : Nat) : Int) := hD 4 rfl
            clear hD
            refine makes1 (x := .tmp 50) (X := Value.int .i64 ((t : Nat) : Int)) ((by kernel_rfl : _ = vals 4).trans h4) (fun ρ rc rf q50 => ?_)
            clear h4
            refine makes_value (v := Value.int .i64 ((t - 2 : Nat) : Int)) ?_ ⟨Adds.refl _, rfl⟩
            go_simp
            all_goals first | done | rfl | (rw [if_pos (by omega)]; refine congrArg (fun x => Result.ok (Next.value (Value.pointer (some ⟨_, x, none⟩))) _) ?_; omega) | (rw [wrapP_i64]; omega) | go_num | (simp; done) | (simp; omega) | (congr 1; first | rfl | (rw [wrapP_i64]; omega) | (congr 1; first | rfl | (simp; done) | (simp; omega) | (congr 2; omega) | go_num))
          · refine showA_op 6 (by intro _ _ _; kernel_rfl) rfl rfl (fun c vals w hC hD => ?_)
            have h5 : vals 5 = .int .i64 ((t - 2 : Nat) : Int) := hD 5 rfl
            clear hD
            refine makes2 (x := .tmp 4) (X := Value.pointer (some ⟨g4, 0, none⟩)) (y := .tmp 51) (Y := Value.int .i64 ((t - 2 : Nat) : Int)) (by kernel_rfl : _ = (Value.pointer (some ⟨g4, 0, none⟩) : Value)) ((by kernel_rfl : _ = vals 5).trans h5) (fun ρ rc rf q4 q51 => ?_)
            clear h5
            refine makes_value (v := Value.pointer (some ⟨g4, t - 2, none⟩)) ?_ ⟨Adds.refl _, rfl⟩
            go_simp
            all_goals first | done | rfl | (rw [if_pos (by omega)]; refine congrArg (fun x => Result.ok (Next.value (Value.pointer (some ⟨_, x, none⟩))) _) ?_; omega) | (rw [wrapP_i64]; omega) | go_num | (simp; done) | (simp; omega) | (congr 1; first | rfl | (rw [wrapP_i64]; omega) | (congr 1; first | rfl | (simp; done) | (simp; omega) | (congr 2; omega) | go_num))
          · refine showA_op 7 (by intro _ _ _; kernel_rfl) rfl rfl (fun c vals w hC hD => ?_)
            have h6 : vals 6 = .pointer (some ⟨g4, t - 2, none⟩) := hD 6 rfl
            clear hD
            refine makes1 (x := .tmp 52) (X := Value.pointer (some ⟨g4, t - 2, none⟩)) ((by kernel_rfl : _ = vals 6).trans h6) (fun ρ rc rf q52 => ?_)
            clear h6
            exact makes_load ((hM.adds hC).loads_W32 (by (repeat (first | exact .head _ | apply List.Mem.tail)); done) (on_of rfl) (by first | omega | (simp only [Len] at *; omega) | (simp; omega))) rfl q52 ⟨Adds.refl _, rfl⟩
          · refine showA_op 8 (by intro _ _ _; kernel_rfl) rfl rfl (fun c vals w hC hD => ?_)
            have h3 : vals 3 = W32 (gw A (t - 15)) := hD 3 rfl
            clear hD
            refine makes1 (x := .tmp 49) (X := W32 (gw A (t - 15))) ((by kernel_rfl : _ = vals 3).trans h3) (fun ρ rc rf q49 => ?_)
            clear h3
            exact makes_move (.inr rfl) q49 ⟨Adds.refl _, rfl⟩
          · refine showA_op 9 (by intro _ _ _; kernel_rfl) rfl rfl (fun c vals w hC hD => ?_)
            have h7 : vals 7 = W32 (gw A (t - 2)) := hD 7 rfl
            clear hD
            refine makes1 (x := .tmp 53) (X := W32 (gw A (t - 2))) ((by kernel_rfl : _ = vals 7).trans h7) (fun ρ rc rf q53 => ?_)
            clear h7
            exact makes_move (.inr rfl) q53 ⟨Adds.refl _, rfl⟩
          intro vals w' hC hΦ hne
          have h8 : vals 8 = W32 (gw A (t - 15)) := hΦ 8 (by decide)
          have h9 : vals 9 = W32 (gw A (t - 2)) := hΦ 9 (by decide)
          clear hΦ hne
          simp only [List.getD_eq_getElem?_getD, List.getElem?_cons_zero, List.getElem?_cons_succ, Option.getD_some, List.drop_succ_cons, List.drop_zero]
          simp only [h8, h9]
          clear h8 h9
          try simp only [tuple_undef]
          replace hM := hM.adds hC
          clear hC
          have HN : Hid (A.set t (gw A (t - 16) + ((Sha.turned (gw A (t - 15)) 7 ^^^ Sha.turned (gw A (t - 15)) 18) ^^^ (gw A (t - 15)) >>> 3) + gw A (t - 7) + ((Sha.turned (gw A (t - 2)) 17 ^^^ Sha.turned (gw A (t - 2)) 19) ^^^ (gw A (t - 2)) >>> 10)) = Sha.laying c (t + 1)) := Lib.hid (by
            rw [← Sha.laying_set c t (by omega), HA.out, Sha.next, if_neg (by omega), ← Sha.laying_get c (t := t) (i := t - 16) (by omega), ← Sha.laying_get c (t := t) (i := t - 15) (by omega), ← Sha.laying_get c (t := t) (i := t - 7) (by omega), ← Sha.laying_get c (t := t) (i := t - 2) (by omega), HA.out]
            rfl)
          go_wp2_with (first | go_skip | ((first | (with_reducible refine gL_load ?_) | ((with_reducible refine gG_load ?_ ?_); (exact wanted_of rfl rfl rfl rfl rfl))); refine ⟨_, _, rfl, (by (first | (exact loads_dig_s hM (by (repeat (first | exact .head _ | apply List.Mem.tail)); done) hs) | (exact loads_dig_n hM (by (repeat (first | exact .head _ | apply List.Mem.tail)); done) hs hb) | (assumption) | (exact hM.loads_B8 (by (repeat (first | exact .head _ | apply List.Mem.tail)); done) (on_of rfl) (by first | omega | (simp only [Len] at *; omega) | (simp; omega))) | (exact hM.loads_all (by (repeat (first | exact .head _ | apply List.Mem.tail)); done) (ag_of rfl) (by first | assumption | exact Len.map (by assumption) _ | rfl | exact Len.map (by rfl) _ | exact Len.of (by simp; done) | exact W32_len (Sha.laying_len _ _ (by omega)) | exact Len.map (W32_len (Sha.laying_len _ _ (by omega))) _ | exact dig_len (by assumption) (by assumption) | exact Len.map (dig_len (by assumption) (by assumption)) _)) | (exact hM.loads_one (by (repeat (first | exact .head _ | apply List.Mem.tail)); done) (on_of rfl) rfl) | (exact hM.loads_W32 (by (repeat (first | exact .head _ | apply List.Mem.tail)); done) (on_of rfl) (by first | omega | (simp only [Len] at *; omega) | (simp; omega))) | (exact loads_cell (by assumption) (on_of rfl)))), ?_⟩) | ((with_reducible refine gL_store hM ?_); refine ⟨_, _, _, rfl, rfl, (by (first | (exact stores_dig_s hM (by (repeat (first | exact .here _ _ _ | apply Has.there)); done) (by assumption) (by assumption)) | (exact hM.stores_B8 (by first | exact (rfl : B8 _ = B8 _) | exact lit8 _ (by decide)) (by (repeat (first | exact .here _ _ _ | apply Has.there)); done) (on_of rfl) (by first | omega | (simp only [Len] at *; omega) | (simp; omega))) | (exact hM.stores_all (by (repeat (first | exact .here _ _ _ | apply Has.there)); done) (ag_of rfl) (by first | assumption | exact Len.map (by assumption) _ | rfl | exact Len.map (by rfl) _ | exact Len.of (by simp; done) | exact W32_len (Sha.laying_len _ _ (by omega)) | exact Len.map (W32_len (Sha.laying_len _ _ (by omega))) _ | exact dig_len (by assumption) (by assumption) | exact Len.map (dig_len (by assumption) (by assumption)) _) (by first | assumption | exact Len.map (by assumption) _ | rfl | exact Len.map (by rfl) _ | exact Len.of (by simp; done) | exact W32_len (Sha.laying_len _ _ (by omega)) | exact Len.map (W32_len (Sha.laying_len _ _ (by omega))) _ | exact dig_len (by assumption) (by assumption) | exact Len.map (dig_len (by assumption) (by assumption)) _) (by first | exact B8_one | exact W32_one | exact one_of_all rfl)) | (exact hM.stores_W32 rfl (by (repeat (first | exact .here _ _ _ | apply Has.there)); done) (on_of rfl) (by first | omega | (simp only [Len] at *; omega) | (simp; omega))) | (exact hM.stores_one (by (repeat (first | exact .here _ _ _ | apply Has.there)); done) (on_of rfl) (by first | omega | (simp only [Len] at *; omega) | (simp; omega)) rfl rfl))), ?_⟩; intro _ hM2; clear hM; have hM := hM2; clear hM2) | ((with_reducible refine gL_alloc hM ?_); refine ⟨_, _, (zr_of rfl), ?_⟩; intro _ _ hM2; clear hM; have hM := hM2; clear hM2) | ((with_reducible refine gL_box hM ?_); refine ⟨_, _, _, rfl, rfl, (by first | assumption | exact Len.map (by assumption) _ | rfl | exact Len.map (by rfl) _ | exact Len.of (by simp; done) | exact W32_len (Sha.laying_len _ _ (by omega)) | exact Len.map (W32_len (Sha.laying_len _ _ (by omega))) _ | exact dig_len (by assumption) (by assumption) | exact Len.map (dig_len (by assumption) (by assumption)) _), ?_⟩; intro _ _ hM2; clear hM; have hM := hM2; clear hM2) | ((with_reducible refine gL_build0 ?_); refine ⟨_, _, _, _, _, _, (zr_of rfl), (ua_of rfl), (ag_of rfl), (el_of rfl), ?_⟩) | ((with_reducible refine gL_buildBytes hM ?_); refine ⟨_, _, (us_of rfl), (el_of rfl), (by decide), (by decide), rfl, (by (repeat (first | exact EvB.nil | apply EvB.cons rfl (by first | exact (rfl : B8 _ = B8 _) | exact lit8 _ (by decide)))); done), ?_⟩; intro _ _ hM2; clear hM; have hM := hM2; clear hM2) | ((with_reducible refine gL_append_B hM ?_); refine ⟨_, _, _, _, _, _, _, _, _, _, rfl, rfl, (by first | exact (rfl : Value.slice (some ⟨_, 0, none⟩) _ _ = sl (some _) _ _) | exact (rfl : Value.slice none _ _ = sl none _ _) | rfl), (us_of rfl), (el_of rfl), (by first | exact hM.src (by (repeat (first | exact .head _ | apply List.Mem.tail)); done) | exact (hM.bytes0 (by assumption)).src), (fun _ _ => by (repeat (first | exact .here _ _ _ | apply Swap.there)); done), (by first | assumption | exact Len.map (by assumption) _ | rfl | exact Len.map (by rfl) _ | exact Len.of (by simp; done) | exact W32_len (Sha.laying_len _ _ (by omega)) | exact Len.map (W32_len (Sha.laying_len _ _ (by omega))) _ | exact dig_len (by assumption) (by assumption) | exact Len.map (dig_len (by assumption) (by assumption)) _), (by first | assumption | exact Len.map (by assumption) _ | rfl | exact Len.map (by rfl) _ | exact Len.of (by simp; done) | exact W32_len (Sha.laying_len _ _ (by omega)) | exact Len.map (W32_len (Sha.laying_len _ _ (by omega))) _ | exact dig_len (by assumption) (by assumption) | exact Len.map (dig_len (by assumption) (by assumption)) _), (by first | assumption | (simp [maxLen]; done) | omega | (simp [maxLen]; omega)), (by first | omega | (simp only [Len] at *; omega) | (simp; omega)), ?_⟩; intro _ _ _ hM2 _ _; clear hM; have hM := hM2; clear hM2) | ((first | (with_reducible refine gL_field ?_) | ((with_reducible refine gG_field ?_ ?_); (exact wanted_of rfl rfl rfl rfl rfl))); refine ⟨_, _, rfl, (by (first | (exact field_one (fb_of rfl) rfl) | (exact field_agg (fa_of rfl) rfl))), ?_⟩))
          rename_i wr2 _
          try simp only [Act.put, List.setIfInBounds_toArray, List.set_cons_succ, List.set_cons_zero]
          refine wp_region_tail 28 (by decide) (fun c vals => ⟨#[c 0, c 1, c 2, c 3, (Value.pointer (some ⟨g4, 0, none⟩) : Value), c 5, c 6, c 7, (Value.int .i64 ((t : Nat) : Int) : Value), (W32 (gw A (t - 15)) : Value), (W32 (gw A (t - 2)) : Value), c 11, c 12, c 13, c 14, c 15, c 16, c 17, c 18, c 19, c 20, c 21, c 22, c 23, c 24, c 25, c 26, c 27, c 28, c 29, c 30, c 31, c 32, c 33, c 34, c 35, c 36, c 37, c 38, c 39, c 40, c 41, c 42, c 43, c 44, c 45, c 46, c 47, c 48, c 49, c 50, c 51, c 52, c 53, vals 0, vals 1, vals 2, vals 3, vals 4, vals 5, vals 6, vals 7, vals 8, vals 9, vals 10, vals 11, vals 12, vals 13, vals 14, vals 15, vals 16, vals 17, vals 18, vals 19, vals 20, vals 21, vals 22, vals 23, vals 24, vals 25, vals 26, vals 27, c 82, c 83, c 84, c 85, c 86, c 87, c 88, c 89, c 90, c 91, c 92, c 93, c 94, c 95, c 96, c 97, c 98, c 99, c 100, c 101, c 102, c 103, c 104, c 105, c 106, c 107, c 108, c 109, c 110, c 111, c 112, c 113, c 114, c 115, c 116, c 117, c 118, c 119, c 120, c 121, c 122, c 123, c 124, c 125, c 126, c 127, c 128, c 129, c 130, c 131, c 132, c 133, c 134, c 135, c 136, c 137, c 138, c 139, c 140, c 141, c 142, c 143, c 144, c 145, c 146, c 147, c 148, c 149, c 150, c 151, c 152, c 153, c 154, c 155, c 156, c 157, c 158, c 159, c 160, c 161, c 162, c 163, c 164, c 165, c 166, c 167, c 168, c 169, c 170, c 171, c 172, c 173, c 174, c 175, c 176, c 177, c 178, c 179, c 180, c 181, c 182, c 183, c 184, c 185, c 186, c 187, c 188, c 189, c 190, c 191, c 192, c 193, c 194], []⟩) (fun t => [_, _, _, _, undef, _, _, _, undef, undef, undef, _, _, _, _, _, _, _, _, _, _, _, _, _, _, _, _, _, _, _, _, _, _, _, _, _, _, _, _, _, _, _, _, _, _, _, _, _, _, _, _, _, _, _, undef, undef, undef, undef, undef, undef, undef, undef, undef, undef, undef, undef, undef, undef, undef, undef, undef, undef, undef, undef, undef, undef, undef, undef, undef, undef, undef, undef, _, _, _, _, _, _, _, _, _, _, _, _, _, _, _, _, _, _, _, _, _, _, _, _, _, _, _, _, _, _, _, _, _, _, _, _, _, _, _, _, _, _, _, _, _, _, _, _, _, _, _, _, _, _, _, _, _, _, _, _, _, _, _, _, _, _, _, _, _, _, _, _, _, _, _, _, _, _, _, _, _, _, _, _, _, _, _, _, _, _, _, _, _, _, _, _, _, _, _, _, _, _, _, _, _, _, _, _, _, _, _, _, _].getD t undef) (fun i => [_, _, _, _, _, _, _, _, _, _, _, _, _, _, _, _, _, _, _, _, _, _, _, _, _, _, _, _].getD i undef) (by kernel_rfl)
            [[], [], [1], [1, 2], [1, 2, 3], [], [5], [], [5, 6, 7], [5, 6, 7, 8], [], [10], [5, 6, 7, 8, 9, 10, 11], [1, 2, 3, 4, 5, 6, 7, 8, 9, 10, 11, 12], [], [14], [14, 15], [14, 15, 16], [1, 2, 3, 4, 5, 6, 7, 8, 9, 10, 11, 12, 13, 14, 15, 16, 17], [], [5, 6, 7, 8, 19], [], [5, 6, 7, 8, 19, 20, 21], [5, 6, 7, 8, 19, 20, 21, 22], [], [24], [5, 6, 7, 8, 19, 20, 21, 22, 23, 24, 25], [1, 2, 3, 4, 5, 6, 7, 8, 9, 10, 11, 12, 13, 14, 15, 16, 17, 18, 19, 20, 21, 22, 23, 24, 25, 26], [0, 1, 2, 3, 4, 5, 6, 7, 8, 9, 10, 11, 12, 13, 14, 15, 16, 17, 18, 19, 20, 21, 22, 23, 24, 25, 26, 27], [0, 1, 2, 3, 4, 5, 6, 7, 8, 9, 10, 11, 12, 13, 14, 15, 16, 17, 18, 19, 20, 21, 22, 23, 24, 25, 26, 27, 28]] (by kernel_rfl) (by kernel_rfl) (fun _ => True) trivial
            [fun x _ => x = (Value.int .i64 ((t : Nat) : Int) : Value),
             fun x _ => x = (Value.int .i64 ((t : Nat) : Int) : Value),
             fun x _ => x = (Value.int .i64 ((t - 16 : Nat) : Int) : Value),
             fun x _ => x = (Value.pointer (some ⟨g4, t - 16, none⟩) : Value),
             fun x _ => x = (W32 (gw A (t - 16)) : Value),
             fun x _ => x = (W32 (gw A (t - 15)) : Value),
             fun x _ => x = (W32 (Sha.turned (gw A (t - 15)) 7) : Value),
             fun x _ => x = (W32 (gw A (t - 15)) : Value),
             fun x _ => x = (W32 (Sha.turned (gw A (t - 15)) 18) : Value),
             fun x _ => x = (W32 ((Sha.turned (gw A (t - 15)) 7) ^^^ (Sha.turned (gw A (t - 15)) 18)) : Value),
             fun x _ => x = (W32 (gw A (t - 15)) : Value),
             fun x _ => x = (W32 ((gw A (t - 15)) >>> 3) : Value),
             fun x _ => x = (W32 (((Sha.turned (gw A (t - 15)) 7) ^^^ (Sha.turned (gw A (t - 15)) 18)) ^^^ ((gw A (t - 15)) >>> 3)) : Value),
             fun x _ => x = (W32 ((gw A (t - 16)) + (((Sha.turned (gw A (t - 15)) 7) ^^^ (Sha.turned (gw A (t - 15)) 18)) ^^^ ((gw A (t - 15)) >>> 3))) : Value),
             fun x _ => x = (Value.int .i64 ((t : Nat) : Int) : Value),
             fun x _ => x = (Value.int .i64 ((t - 7 : Nat) : Int) : Value),
             fun x _ => x = (Value.pointer (some ⟨g4, t - 7, none⟩) : Value),
             fun x _ => x = (W32 (gw A (t - 7)) : Value),
             fun x _ => x = (W32 (((gw A (t - 16)) + (((Sha.turned (gw A (t - 15)) 7) ^^^ (Sha.turned (gw A (t - 15)) 18)) ^^^ ((gw A (t - 15)) >>> 3))) + (gw A (t - 7))) : Value),
             fun x _ => x = (W32 (gw A (t - 2)) : Value),
             fun x _ => x = (W32 (Sha.turned (gw A (t - 2)) 17) : Value),
             fun x _ => x = (W32 (gw A (t - 2)) : Value),
             fun x _ => x = (W32 (Sha.turned (gw A (t - 2)) 19) : Value),
             fun x _ => x = (W32 ((Sha.turned (gw A (t - 2)) 17) ^^^ (Sha.turned (gw A (t - 2)) 19)) : Value),
             fun x _ => x = (W32 (gw A (t - 2)) : Value),
             fun x _ => x = (W32 ((gw A (t - 2)) >>> 10) : Value),
             fun x _ => x = (W32 (((Sha.turned (gw A (t - 2)) 17) ^^^ (Sha.turned (gw A (t - 2)) 19)) ^^^ ((gw A (t - 2)) >>> 10)) : Value),
             fun x _ => x = (W32 ((((gw A (t - 16)) + (((Sha.turned (gw A (t - 15)) 7) ^^^ (Sha.turned (gw A (t - 15)) 18)) ^^^ ((gw A (t - 15)) >>> 3))) + (gw A (t - 7))) + (((Sha.turned (gw A (t - 2)) 17) ^^^ (Sha.turned (gw A (t - 2)) 19)) ^^^ ((gw A (t - 2)) >>> 10))) : Value)]
            ⟨fun _ _ _ h _ => h, fun _ _ _ h _ => h, fun _ _ _ h _ => h, fun _ _ _ h _ => h, fun _ _ _ h _ => h, fun _ _ _ h _ => h, fun _ _ _ h _ => h, fun _ _ _ h _ => h, fun _ _ _ h _ => h, fun _ _ _ h _ => h, fun _ _ _ h _ => h, fun _ _ _ h _ => h, fun _ _ _ h _ => h, fun _ _ _ h _ => h, fun _ _ _ h _ => h, fun _ _ _ h _ => h, fun _ _ _ h _ => h, fun _ _ _ h _ => h, fun _ _ _ h _ => h, fun _ _ _ h _ => h, fun _ _ _ h _ => h, fun _ _ _ h _ => h, fun _ _ _ h _ => h, fun _ _ _ h _ => h, fun _ _ _ h _ => h, fun _ _ _ h _ => h, fun _ _ _ h _ => h, fun _ _ _ h _ => h, trivial⟩ []
            ⟨?_, ?_, ?_, ?_, ?_, ?_, ?_, ?_, ?_, ?_, ?_, ?_, ?_, ?_, ?_, ?_, ?_, ?_, ?_, ?_, ?_, ?_, ?_, ?_, ?_, ?_, ?_, ?_, trivial⟩ ?_
          · refine showA_op 0 (by intro _ _ _; kernel_rfl) rfl rfl (fun c vals w hC hD => ?_)
            clear hD
            refine makes1 (x := .tmp 8) (X := Value.int .i64 ((t : Nat) : Int)) (by kernel_rfl : _ = (Value.int .i64 ((t : Nat) : Int) : Value)) (fun ρ rc rf q8 => ?_)
            exact makes_move (.inl rfl) q8 ⟨Adds.refl _, rfl⟩
          · refine showA_op 1 (by intro _ _ _; kernel_rfl) rfl rfl (fun c vals w hC hD => ?_)
            clear hD
            refine makes1 (x := .tmp 8) (X := Value.int .i64 ((t : Nat) : Int)) (by kernel_rfl : _ = (Value.int .i64 ((t : Nat) : Int) : Value)) (fun ρ rc rf q8 => ?_)
            exact makes_move (.inl rfl) q8 ⟨Adds.refl _, rfl⟩
          · refine showA_op 2 (by intro _ _ _; kernel_rfl) rfl rfl (fun c vals w hC hD => ?_)
            have h1 : vals 1 = .int .i64 ((t : Nat) : Int) := hD 1 rfl
            clear hD
            refine makes1 (x := .tmp 55) (X := Value.int .i64 ((t : Nat) : Int)) ((by kernel_rfl : _ = vals 1).trans h1) (fun ρ rc rf q55 => ?_)
            clear h1
            refine makes_value (v := Value.int .i64 ((t - 16 : Nat) : Int)) ?_ ⟨Adds.refl _, rfl⟩
            go_simp
            all_goals first | done | rfl | (rw [if_pos (by omega)]; refine congrArg (fun x => Result.ok (Next.value (Value.pointer (some ⟨_, x, none⟩))) _) ?_; omega) | (rw [wrapP_i64]; omega) | go_num | (simp; done) | (simp; omega) | (congr 1; first | rfl | (rw [wrapP_i64]; omega) | (congr 1; first | rfl | (simp; done) | (simp; omega) | (congr 2; omega) | go_num))
          · refine showA_op 3 (by intro _ _ _; kernel_rfl) rfl rfl (fun c vals w hC hD => ?_)
            have h2 : vals 2 = .int .i64 ((t - 16 : Nat) : Int) := hD 2 rfl
            clear hD
            refine makes2 (x := .tmp 4) (X := Value.pointer (some ⟨g4, 0, none⟩)) (y := .tmp 56) (Y := Value.int .i64 ((t - 16 : Nat) : Int)) (by kernel_rfl : _ = (Value.pointer (some ⟨g4, 0, none⟩) : Value)) ((by kernel_rfl : _ = vals 2).trans h2) (fun ρ rc rf q4 q56 => ?_)
            clear h2
            refine makes_value (v := Value.pointer (some ⟨g4, t - 16, none⟩)) ?_ ⟨Adds.refl _, rfl⟩
            go_simp
            all_goals first | done | rfl | (rw [if_pos (by omega)]; refine congrArg (fun x => Result.ok (Next.value (Value.pointer (some ⟨_, x, none⟩))) _) ?_; omega) | (rw [wrapP_i64]; omega) | go_num | (simp; done) | (simp; omega) | (congr 1; first | rfl | (rw [wrapP_i64]; omega) | (congr 1; first | rfl | (simp; done) | (simp; omega) | (congr 2; omega) | go_num))
          · refine showA_op 4 (by intro _ _ _; kernel_rfl) rfl rfl (fun c vals w hC hD => ?_)
            have h3 : vals 3 = .pointer (some ⟨g4, t - 16, none⟩) := hD 3 rfl
            clear hD
            refine makes1 (x := .tmp 57) (X := Value.pointer (some ⟨g4, t - 16, none⟩)) ((by kernel_rfl : _ = vals 3).trans h3) (fun ρ rc rf q57 => ?_)
            clear h3
            exact makes_load ((hM.adds hC).loads_W32 (by (repeat (first | exact .head _ | apply List.Mem.tail)); done) (on_of rfl) (by first | omega | (simp only [Len] at *; omega) | (simp; omega))) rfl q57 ⟨Adds.refl _, rfl⟩
          · refine showA_op 5 (by intro _ _ _; kernel_rfl) rfl rfl (fun c vals w hC hD => ?_)
            clear hD
            refine makes1 (x := .tmp 9) (X := W32 (gw A (t - 15))) (by kernel_rfl : _ = (W32 (gw A (t - 15)) : Value)) (fun ρ rc rf q9 => ?_)
            exact makes_move (.inl rfl) q9 ⟨Adds.refl _, rfl⟩
          · refine showA_op 6 (by intro _ _ _; kernel_rfl) rfl rfl (fun c vals w hC hD => ?_)
            have h5 : vals 5 = W32 (gw A (t - 15)) := hD 5 rfl
            clear hD
            refine makes1 (x := .tmp 59) (X := W32 (gw A (t - 15))) ((by kernel_rfl : _ = vals 5).trans h5) (fun ρ rc rf q59 => ?_)
            clear h5
            refine makes_call (sha_turn_b _ (gw A (t - 15)) 7 (by decide) (by decide)) ?_ (by rintro e w' ⟨rfl, hb⟩; exact ⟨_, rfl, hb, rfl⟩)
            go_simp
          · refine showA_op 7 (by intro _ _ _; kernel_rfl) rfl rfl (fun c vals w hC hD => ?_)
            clear hD
            refine makes1 (x := .tmp 9) (X := W32 (gw A (t - 15))) (by kernel_rfl : _ = (W32 (gw A (t - 15)) : Value)) (fun ρ rc rf q9 => ?_)
            exact makes_move (.inl rfl) q9 ⟨Adds.refl _, rfl⟩
          · refine showA_op 8 (by intro _ _ _; kernel_rfl) rfl rfl (fun c vals w hC hD => ?_)
            have h7 : vals 7 = W32 (gw A (t - 15)) := hD 7 rfl
            clear hD
            refine makes1 (x := .tmp 61) (X := W32 (gw A (t - 15))) ((by kernel_rfl : _ = vals 7).trans h7) (fun ρ rc rf q61 => ?_)
            clear h7
            refine makes_call (sha_turn_b _ (gw A (t - 15)) 18 (by decide) (by decide)) ?_ (by rintro e w' ⟨rfl, hb⟩; exact ⟨_, rfl, hb, rfl⟩)
            go_simp
          · refine showA_op 9 (by intro _ _ _; kernel_rfl) rfl rfl (fun c vals w hC hD => ?_)
            have h6 : vals 6 = W32 (Sha.turned (gw A (t - 15)) 7) := hD 6 rfl
            have h8 : vals 8 = W32 (Sha.turned (gw A (t - 15)) 18) := hD 8 rfl
            clear hD
            refine makes2 (x := .tmp 60) (X := W32 (Sha.turned (gw A (t - 15)) 7)) (y := .tmp 62) (Y := W32 (Sha.turned (gw A (t - 15)) 18)) ((by kernel_rfl : _ = vals 6).trans h6) ((by kernel_rfl : _ = vals 8).trans h8) (fun ρ rc rf q60 q62 => ?_)
            clear h6 h8
            refine makes_value (v := W32 ((Sha.turned (gw A (t - 15)) 7) ^^^ (Sha.turned (gw A (t - 15)) 18))) ?_ ⟨Adds.refl _, rfl⟩
            go_simp
            all_goals first | done | rfl | (rw [if_pos (by omega)]; refine congrArg (fun x => Result.ok (Next.value (Value.pointer (some ⟨_, x, none⟩))) _) ?_; omega) | (rw [wrapP_i64]; omega) | go_num | (simp; done) | (simp; omega) | (congr 1; first | rfl | (rw [wrapP_i64]; omega) | (congr 1; first | rfl | (simp; done) | (simp; omega) | (congr 2; omega) | go_num))
          · refine showA_op 10 (by intro _ _ _; kernel_rfl) rfl rfl (fun c vals w hC hD => ?_)
            clear hD
            refine makes1 (x := .tmp 9) (X := W32 (gw A (t - 15))) (by kernel_rfl : _ = (W32 (gw A (t - 15)) : Value)) (fun ρ rc rf q9 => ?_)
            exact makes_move (.inl rfl) q9 ⟨Adds.refl _, rfl⟩
          · refine showA_op 11 (by intro _ _ _; kernel_rfl) rfl rfl (fun c vals w hC hD => ?_)
            have h10 : vals 10 = W32 (gw A (t - 15)) := hD 10 rfl
            clear hD
            refine makes1 (x := .tmp 64) (X := W32 (gw A (t - 15))) ((by kernel_rfl : _ = vals 10).trans h10) (fun ρ rc rf q64 => ?_)
            clear h10
            refine makes_value (v := W32 ((gw A (t - 15)) >>> 3)) ?_ ⟨Adds.refl _, rfl⟩
            go_simp
            all_goals first | done | rfl | (rw [if_pos (by omega)]; refine congrArg (fun x => Result.ok (Next.value (Value.pointer (some ⟨_, x, none⟩))) _) ?_; omega) | (rw [wrapP_i64]; omega) | go_num | (simp; done) | (simp; omega) | (congr 1; first | rfl | (rw [wrapP_i64]; omega) | (congr 1; first | rfl | (simp; done) | (simp; omega) | (congr 2; omega) | go_num))
          · refine showA_op 12 (by intro _ _ _; kernel_rfl) rfl rfl (fun c vals w hC hD => ?_)
            have h9 : vals 9 = W32 ((Sha.turned (gw A (t - 15)) 7) ^^^ (Sha.turned (gw A (t - 15)) 18)) := hD 9 rfl
            have h11 : vals 11 = W32 ((gw A (t - 15)) >>> 3) := hD 11 rfl
            clear hD
            refine makes2 (x := .tmp 63) (X := W32 ((Sha.turned (gw A (t - 15)) 7) ^^^ (Sha.turned (gw A (t - 15)) 18))) (y := .tmp 65) (Y := W32 ((gw A (t - 15)) >>> 3)) ((by kernel_rfl : _ = vals 9).trans h9) ((by kernel_rfl : _ = vals 11).trans h11) (fun ρ rc rf q63 q65 => ?_)
            clear h9 h11
            refine makes_value (v := W32 (((Sha.turned (gw A (t - 15)) 7) ^^^ (Sha.turned (gw A (t - 15)) 18)) ^^^ ((gw A (t - 15)) >>> 3))) ?_ ⟨Adds.refl _, rfl⟩
            go_simp
            all_goals first | done | rfl | (rw [if_pos (by omega)]; refine congrArg (fun x => Result.ok (Next.value (Value.pointer (some ⟨_, x, none⟩))) _) ?_; omega) | (rw [wrapP_i64]; omega) | go_num | (simp; done) | (simp; omega) | (congr 1; first | rfl | (rw [wrapP_i64]; omega) | (congr 1; first | rfl | (simp; done) | (simp; omega) | (congr 2; omega) | go_num))
          · refine showA_op 13 (by intro _ _ _; kernel_rfl) rfl rfl (fun c vals w hC hD => ?_)
            have h4 : vals 4 = W32 (gw A (t - 16)) := hD 4 rfl
            have h12 : vals 12 = W32 (((Sha.turned (gw A (t - 15)) 7) ^^^ (Sha.turned (gw A (t - 15)) 18)) ^^^ ((gw A (t - 15)) >>> 3)) := hD 12 rfl
            clear hD
            refine makes2 (x := .tmp 58) (X := W32 (gw A (t - 16))) (y := .tmp 66) (Y := W32 (((Sha.turned (gw A (t - 15)) 7) ^^^ (Sha.turned (gw A (t - 15)) 18)) ^^^ ((gw A (t - 15)) >>> 3))) ((by kernel_rfl : _ = vals 4).trans h4) ((by kernel_rfl : _ = vals 12).trans h12) (fun ρ rc rf q58 q66 => ?_)
            clear h4 h12
            refine makes_value (v := W32 ((gw A (t - 16)) + (((Sha.turned (gw A (t - 15)) 7) ^^^ (Sha.turned (gw A (t - 15)) 18)) ^^^ ((gw A (t - 15)) >>> 3)))) ?_ ⟨Adds.refl _, rfl⟩
            go_simp
            all_goals first | done | rfl | (rw [if_pos (by omega)]; refine congrArg (fun x => Result.ok (Next.value (Value.pointer (some ⟨_, x, none⟩))) _) ?_; omega) | (rw [wrapP_i64]; omega) | go_num | (simp; done) | (simp; omega) | (congr 1; first | rfl | (rw [wrapP_i64]; omega) | (congr 1; first | rfl | (simp; done) | (simp; omega) | (congr 2; omega) | go_num))
          · refine showA_op 14 (by intro _ _ _; kernel_rfl) rfl rfl (fun c vals w hC hD => ?_)
            clear hD
            refine makes1 (x := .tmp 8) (X := Value.int .i64 ((t : Nat) : Int)) (by kernel_rfl : _ = (Value.int .i64 ((t : Nat) : Int) : Value)) (fun ρ rc rf q8 => ?_)
            exact makes_move (.inl rfl) q8 ⟨Adds.refl _, rfl⟩
          · refine showA_op 15 (by intro _ _ _; kernel_rfl) rfl rfl (fun c vals w hC hD => ?_)
            have h14 : vals 14 = .int .i64 ((t : Nat) : Int) := hD 14 rfl
            clear hD
            refine makes1 (x := .tmp 68) (X := Value.int .i64 ((t : Nat) : Int)) ((by kernel_rfl : _ = vals 14).trans h14) (fun ρ rc rf q68 => ?_)
            clear h14
            refine makes_value (v := Value.int .i64 ((t - 7 : Nat) : Int)) ?_ ⟨Adds.refl _, rfl⟩
            go_simp
            all_goals first | done | rfl | (rw [if_pos (by omega)]; refine congrArg (fun x => Result.ok (Next.value (Value.pointer (some ⟨_, x, none⟩))) _) ?_; omega) | (rw [wrapP_i64]; omega) | go_num | (simp; done) | (simp; omega) | (congr 1; first | rfl | (rw [wrapP_i64]; omega) | (congr 1; first | rfl | (simp; done) | (simp; omega) | (congr 2; omega) | go_num))
          · refine showA_op 16 (by intro _ _ _; kernel_rfl) rfl rfl (fun c vals w hC hD => ?_)
            have h15 : vals 15 = .int .i64 ((t - 7 : Nat) : Int) := hD 15 rfl
            clear hD
            refine makes2 (x := .tmp 4) (X := Value.pointer (some ⟨g4, 0, none⟩)) (y := .tmp 69) (Y := Value.int .i64 ((t - 7 : Nat) : Int)) (by kernel_rfl : _ = (Value.pointer (some ⟨g4, 0, none⟩) : Value)) ((by kernel_rfl : _ = vals 15).trans h15) (fun ρ rc rf q4 q69 => ?_)
            clear h15
            refine makes_value (v := Value.pointer (some ⟨g4, t - 7, none⟩)) ?_ ⟨Adds.refl _, rfl⟩
            go_simp
            all_goals first | done | rfl | (rw [if_pos (by omega)]; refine congrArg (fun x => Result.ok (Next.value (Value.pointer (some ⟨_, x, none⟩))) _) ?_; omega) | (rw [wrapP_i64]; omega) | go_num | (simp; done) | (simp; omega) | (congr 1; first | rfl | (rw [wrapP_i64]; omega) | (congr 1; first | rfl | (simp; done) | (simp; omega) | (congr 2; omega) | go_num))
          · refine showA_op 17 (by intro _ _ _; kernel_rfl) rfl rfl (fun c vals w hC hD => ?_)
            have h16 : vals 16 = .pointer (some ⟨g4, t - 7, none⟩) := hD 16 rfl
            clear hD
            refine makes1 (x := .tmp 70) (X := Value.pointer (some ⟨g4, t - 7, none⟩)) ((by kernel_rfl : _ = vals 16).trans h16) (fun ρ rc rf q70 => ?_)
            clear h16
            exact makes_load ((hM.adds hC).loads_W32 (by (repeat (first | exact .head _ | apply List.Mem.tail)); done) (on_of rfl) (by first | omega | (simp only [Len] at *; omega) | (simp; omega))) rfl q70 ⟨Adds.refl _, rfl⟩
          · refine showA_op 18 (by intro _ _ _; kernel_rfl) rfl rfl (fun c vals w hC hD => ?_)
            have h13 : vals 13 = W32 ((gw A (t - 16)) + (((Sha.turned (gw A (t - 15)) 7) ^^^ (Sha.turned (gw A (t - 15)) 18)) ^^^ ((gw A (t - 15)) >>> 3))) := hD 13 rfl
            have h17 : vals 17 = W32 (gw A (t - 7)) := hD 17 rfl
            clear hD
            refine makes2 (x := .tmp 67) (X := W32 ((gw A (t - 16)) + (((Sha.turned (gw A (t - 15)) 7) ^^^ (Sha.turned (gw A (t - 15)) 18)) ^^^ ((gw A (t - 15)) >>> 3)))) (y := .tmp 71) (Y := W32 (gw A (t - 7))) ((by kernel_rfl : _ = vals 13).trans h13) ((by kernel_rfl : _ = vals 17).trans h17) (fun ρ rc rf q67 q71 => ?_)
            clear h13 h17
            refine makes_value (v := W32 (((gw A (t - 16)) + (((Sha.turned (gw A (t - 15)) 7) ^^^ (Sha.turned (gw A (t - 15)) 18)) ^^^ ((gw A (t - 15)) >>> 3))) + (gw A (t - 7)))) ?_ ⟨Adds.refl _, rfl⟩
            go_simp
            all_goals first | done | rfl | (rw [if_pos (by omega)]; refine congrArg (fun x => Result.ok (Next.value (Value.pointer (some ⟨_, x, none⟩))) _) ?_; omega) | (rw [wrapP_i64]; omega) | go_num | (simp; done) | (simp; omega) | (congr 1; first | rfl | (rw [wrapP_i64]; omega) | (congr 1; first | rfl | (simp; done) | (simp; omega) | (congr 2; omega) | go_num))
          · refine showA_op 19 (by intro _ _ _; kernel_rfl) rfl rfl (fun c vals w hC hD => ?_)
            clear hD
            refine makes1 (x := .tmp 10) (X := W32 (gw A (t - 2))) (by kernel_rfl : _ = (W32 (gw A (t - 2)) : Value)) (fun ρ rc rf q10 => ?_)
            exact makes_move (.inl rfl) q10 ⟨Adds.refl _, rfl⟩
          · refine showA_op 20 (by intro _ _ _; kernel_rfl) rfl rfl (fun c vals w hC hD => ?_)
            have h19 : vals 19 = W32 (gw A (t - 2)) := hD 19 rfl
            clear hD
            refine makes1 (x := .tmp 73) (X := W32 (gw A (t - 2))) ((by kernel_rfl : _ = vals 19).trans h19) (fun ρ rc rf q73 => ?_)
            clear h19
            refine makes_call (sha_turn_b _ (gw A (t - 2)) 17 (by decide) (by decide)) ?_ (by rintro e w' ⟨rfl, hb⟩; exact ⟨_, rfl, hb, rfl⟩)
            go_simp
          · refine showA_op 21 (by intro _ _ _; kernel_rfl) rfl rfl (fun c vals w hC hD => ?_)
            clear hD
            refine makes1 (x := .tmp 10) (X := W32 (gw A (t - 2))) (by kernel_rfl : _ = (W32 (gw A (t - 2)) : Value)) (fun ρ rc rf q10 => ?_)
            exact makes_move (.inl rfl) q10 ⟨Adds.refl _, rfl⟩
          · refine showA_op 22 (by intro _ _ _; kernel_rfl) rfl rfl (fun c vals w hC hD => ?_)
            have h21 : vals 21 = W32 (gw A (t - 2)) := hD 21 rfl
            clear hD
            refine makes1 (x := .tmp 75) (X := W32 (gw A (t - 2))) ((by kernel_rfl : _ = vals 21).trans h21) (fun ρ rc rf q75 => ?_)
            clear h21
            refine makes_call (sha_turn_b _ (gw A (t - 2)) 19 (by decide) (by decide)) ?_ (by rintro e w' ⟨rfl, hb⟩; exact ⟨_, rfl, hb, rfl⟩)
            go_simp
          · refine showA_op 23 (by intro _ _ _; kernel_rfl) rfl rfl (fun c vals w hC hD => ?_)
            have h20 : vals 20 = W32 (Sha.turned (gw A (t - 2)) 17) := hD 20 rfl
            have h22 : vals 22 = W32 (Sha.turned (gw A (t - 2)) 19) := hD 22 rfl
            clear hD
            refine makes2 (x := .tmp 74) (X := W32 (Sha.turned (gw A (t - 2)) 17)) (y := .tmp 76) (Y := W32 (Sha.turned (gw A (t - 2)) 19)) ((by kernel_rfl : _ = vals 20).trans h20) ((by kernel_rfl : _ = vals 22).trans h22) (fun ρ rc rf q74 q76 => ?_)
            clear h20 h22
            refine makes_value (v := W32 ((Sha.turned (gw A (t - 2)) 17) ^^^ (Sha.turned (gw A (t - 2)) 19))) ?_ ⟨Adds.refl _, rfl⟩
            go_simp
            all_goals first | done | rfl | (rw [if_pos (by omega)]; refine congrArg (fun x => Result.ok (Next.value (Value.pointer (some ⟨_, x, none⟩))) _) ?_; omega) | (rw [wrapP_i64]; omega) | go_num | (simp; done) | (simp; omega) | (congr 1; first | rfl | (rw [wrapP_i64]; omega) | (congr 1; first | rfl | (simp; done) | (simp; omega) | (congr 2; omega) | go_num))
          · refine showA_op 24 (by intro _ _ _; kernel_rfl) rfl rfl (fun c vals w hC hD => ?_)
            clear hD
            refine makes1 (x := .tmp 10) (X := W32 (gw A (t - 2))) (by kernel_rfl : _ = (W32 (gw A (t - 2)) : Value)) (fun ρ rc rf q10 => ?_)
            exact makes_move (.inl rfl) q10 ⟨Adds.refl _, rfl⟩
          · refine showA_op 25 (by intro _ _ _; kernel_rfl) rfl rfl (fun c vals w hC hD => ?_)
            have h24 : vals 24 = W32 (gw A (t - 2)) := hD 24 rfl
            clear hD
            refine makes1 (x := .tmp 78) (X := W32 (gw A (t - 2))) ((by kernel_rfl : _ = vals 24).trans h24) (fun ρ rc rf q78 => ?_)
            clear h24
            refine makes_value (v := W32 ((gw A (t - 2)) >>> 10)) ?_ ⟨Adds.refl _, rfl⟩
            go_simp
            all_goals first | done | rfl | (rw [if_pos (by omega)]; refine congrArg (fun x => Result.ok (Next.value (Value.pointer (some ⟨_, x, none⟩))) _) ?_; omega) | (rw [wrapP_i64]; omega) | go_num | (simp; done) | (simp; omega) | (congr 1; first | rfl | (rw [wrapP_i64]; omega) | (congr 1; first | rfl | (simp; done) | (simp; omega) | (congr 2; omega) | go_num))
          · refine showA_op 26 (by intro _ _ _; kernel_rfl) rfl rfl (fun c vals w hC hD => ?_)
            have h23 : vals 23 = W32 ((Sha.turned (gw A (t - 2)) 17) ^^^ (Sha.turned (gw A (t - 2)) 19)) := hD 23 rfl
            have h25 : vals 25 = W32 ((gw A (t - 2)) >>> 10) := hD 25 rfl
            clear hD
            refine makes2 (x := .tmp 77) (X := W32 ((Sha.turned (gw A (t - 2)) 17) ^^^ (Sha.turned (gw A (t - 2)) 19))) (y := .tmp 79) (Y := W32 ((gw A (t - 2)) >>> 10)) ((by kernel_rfl : _ = vals 23).trans h23) ((by kernel_rfl : _ = vals 25).trans h25) (fun ρ rc rf q77 q79 => ?_)
            clear h23 h25
            refine makes_value (v := W32 (((Sha.turned (gw A (t - 2)) 17) ^^^ (Sha.turned (gw A (t - 2)) 19)) ^^^ ((gw A (t - 2)) >>> 10))) ?_ ⟨Adds.refl _, rfl⟩
            go_simp
            all_goals first | done | rfl | (rw [if_pos (by omega)]; refine congrArg (fun x => Result.ok (Next.value (Value.pointer (some ⟨_, x, none⟩))) _) ?_; omega) | (rw [wrapP_i64]; omega) | go_num | (simp; done) | (simp; omega) | (congr 1; first | rfl | (rw [wrapP_i64]; omega) | (congr 1; first | rfl | (simp; done) | (simp; omega) | (congr 2; omega) | go_num))
          · refine showA_op 27 (by intro _ _ _; kernel_rfl) rfl rfl (fun c vals w hC hD => ?_)
            have h18 : vals 18 = W32 (((gw A (t - 16)) + (((Sha.turned (gw A (t - 15)) 7) ^^^ (Sha.turned (gw A (t - 15)) 18)) ^^^ ((gw A (t - 15)) >>> 3))) + (gw A (t - 7))) := hD 18 rfl
            have h26 : vals 26 = W32 (((Sha.turned (gw A (t - 2)) 17) ^^^ (Sha.turned (gw A (t - 2)) 19)) ^^^ ((gw A (t - 2)) >>> 10)) := hD 26 rfl
            clear hD
            refine makes2 (x := .tmp 72) (X := W32 (((gw A (t - 16)) + (((Sha.turned (gw A (t - 15)) 7) ^^^ (Sha.turned (gw A (t - 15)) 18)) ^^^ ((gw A (t - 15)) >>> 3))) + (gw A (t - 7)))) (y := .tmp 80) (Y := W32 (((Sha.turned (gw A (t - 2)) 17) ^^^ (Sha.turned (gw A (t - 2)) 19)) ^^^ ((gw A (t - 2)) >>> 10))) ((by kernel_rfl : _ = vals 18).trans h18) ((by kernel_rfl : _ = vals 26).trans h26) (fun ρ rc rf q72 q80 => ?_)
            clear h18 h26
            refine makes_value (v := W32 ((((gw A (t - 16)) + (((Sha.turned (gw A (t - 15)) 7) ^^^ (Sha.turned (gw A (t - 15)) 18)) ^^^ ((gw A (t - 15)) >>> 3))) + (gw A (t - 7))) + (((Sha.turned (gw A (t - 2)) 17) ^^^ (Sha.turned (gw A (t - 2)) 19)) ^^^ ((gw A (t - 2)) >>> 10)))) ?_ ⟨Adds.refl _, rfl⟩
            go_simp
            all_goals first | done | rfl | (rw [if_pos (by omega)]; refine congrArg (fun x => Result.ok (Next.value (Value.pointer (some ⟨_, x, none⟩))) _) ?_; omega) | (rw [wrapP_i64]; omega) | go_num | (simp; done) | (simp; omega) | (congr 1; first | rfl | (rw [wrapP_i64]; omega) | (congr 1; first | rfl | (simp; done) | (simp; omega) | (congr 2; omega) | go_num))
          intro vals w' hC hΦ hne
          have h0 : vals 0 = .int .i64 ((t : Nat) : Int) := hΦ 0 (by decide)
          have h27 : vals 27 = W32 ((((gw A (t - 16)) + (((Sha.turned (gw A (t - 15)) 7) ^^^ (Sha.turned (gw A (t - 15)) 18)) ^^^ ((gw A (t - 15)) >>> 3))) + (gw A (t - 7))) + (((Sha.turned (gw A (t - 2)) 17) ^^^ (Sha.turned (gw A (t - 2)) 19)) ^^^ ((gw A (t - 2)) >>> 10))) := hΦ 27 (by decide)
          clear hΦ hne
          simp only [List.getD_eq_getElem?_getD, List.getElem?_cons_zero, List.getElem?_cons_succ, Option.getD_some, List.drop_succ_cons, List.drop_zero]
          simp only [h0, h27]
          clear h0 h27
          try simp only [tuple_undef]
          replace hM := hM.adds hC
          clear hC
          go_wp2_with (first | go_skip | ((first | (with_reducible refine gL_load ?_) | ((with_reducible refine gG_load ?_ ?_); (exact wanted_of rfl rfl rfl rfl rfl))); refine ⟨_, _, rfl, (by (first | (exact loads_dig_s hM (by (repeat (first | exact .head _ | apply List.Mem.tail)); done) hs) | (exact loads_dig_n hM (by (repeat (first | exact .head _ | apply List.Mem.tail)); done) hs hb) | (assumption) | (exact hM.loads_B8 (by (repeat (first | exact .head _ | apply List.Mem.tail)); done) (on_of rfl) (by first | omega | (simp only [Len] at *; omega) | (simp; omega))) | (exact hM.loads_all (by (repeat (first | exact .head _ | apply List.Mem.tail)); done) (ag_of rfl) (by first | assumption | exact Len.map (by assumption) _ | rfl | exact Len.map (by rfl) _ | exact Len.of (by simp; done) | exact W32_len (Sha.laying_len _ _ (by omega)) | exact Len.map (W32_len (Sha.laying_len _ _ (by omega))) _ | exact dig_len (by assumption) (by assumption) | exact Len.map (dig_len (by assumption) (by assumption)) _)) | (exact hM.loads_one (by (repeat (first | exact .head _ | apply List.Mem.tail)); done) (on_of rfl) rfl) | (exact hM.loads_W32 (by (repeat (first | exact .head _ | apply List.Mem.tail)); done) (on_of rfl) (by first | omega | (simp only [Len] at *; omega) | (simp; omega))) | (exact loads_cell (by assumption) (on_of rfl)))), ?_⟩) | ((with_reducible refine gL_store hM ?_); refine ⟨_, _, _, rfl, rfl, (by (first | (exact stores_dig_s hM (by (repeat (first | exact .here _ _ _ | apply Has.there)); done) (by assumption) (by assumption)) | (exact hM.stores_B8 (by first | exact (rfl : B8 _ = B8 _) | exact lit8 _ (by decide)) (by (repeat (first | exact .here _ _ _ | apply Has.there)); done) (on_of rfl) (by first | omega | (simp only [Len] at *; omega) | (simp; omega))) | (exact hM.stores_all (by (repeat (first | exact .here _ _ _ | apply Has.there)); done) (ag_of rfl) (by first | assumption | exact Len.map (by assumption) _ | rfl | exact Len.map (by rfl) _ | exact Len.of (by simp; done) | exact W32_len (Sha.laying_len _ _ (by omega)) | exact Len.map (W32_len (Sha.laying_len _ _ (by omega))) _ | exact dig_len (by assumption) (by assumption) | exact Len.map (dig_len (by assumption) (by assumption)) _) (by first | assumption | exact Len.map (by assumption) _ | rfl | exact Len.map (by rfl) _ | exact Len.of (by simp; done) | exact W32_len (Sha.laying_len _ _ (by omega)) | exact Len.map (W32_len (Sha.laying_len _ _ (by omega))) _ | exact dig_len (by assumption) (by assumption) | exact Len.map (dig_len (by assumption) (by assumption)) _) (by first | exact B8_one | exact W32_one | exact one_of_all rfl)) | (exact hM.stores_W32 rfl (by (repeat (first | exact .here _ _ _ | apply Has.there)); done) (on_of rfl) (by first | omega | (simp only [Len] at *; omega) | (simp; omega))) | (exact hM.stores_one (by (repeat (first | exact .here _ _ _ | apply Has.there)); done) (on_of rfl) (by first | omega | (simp only [Len] at *; omega) | (simp; omega)) rfl rfl))), ?_⟩; intro _ hM2; clear hM; have hM := hM2; clear hM2) | ((with_reducible refine gL_alloc hM ?_); refine ⟨_, _, (zr_of rfl), ?_⟩; intro _ _ hM2; clear hM; have hM := hM2; clear hM2) | ((with_reducible refine gL_box hM ?_); refine ⟨_, _, _, rfl, rfl, (by first | assumption | exact Len.map (by assumption) _ | rfl | exact Len.map (by rfl) _ | exact Len.of (by simp; done) | exact W32_len (Sha.laying_len _ _ (by omega)) | exact Len.map (W32_len (Sha.laying_len _ _ (by omega))) _ | exact dig_len (by assumption) (by assumption) | exact Len.map (dig_len (by assumption) (by assumption)) _), ?_⟩; intro _ _ hM2; clear hM; have hM := hM2; clear hM2) | ((with_reducible refine gL_build0 ?_); refine ⟨_, _, _, _, _, _, (zr_of rfl), (ua_of rfl), (ag_of rfl), (el_of rfl), ?_⟩) | ((with_reducible refine gL_buildBytes hM ?_); refine ⟨_, _, (us_of rfl), (el_of rfl), (by decide), (by decide), rfl, (by (repeat (first | exact EvB.nil | apply EvB.cons rfl (by first | exact (rfl : B8 _ = B8 _) | exact lit8 _ (by decide)))); done), ?_⟩; intro _ _ hM2; clear hM; have hM := hM2; clear hM2) | ((with_reducible refine gL_append_B hM ?_); refine ⟨_, _, _, _, _, _, _, _, _, _, rfl, rfl, (by first | exact (rfl : Value.slice (some ⟨_, 0, none⟩) _ _ = sl (some _) _ _) | exact (rfl : Value.slice none _ _ = sl none _ _) | rfl), (us_of rfl), (el_of rfl), (by first | exact hM.src (by (repeat (first | exact .head _ | apply List.Mem.tail)); done) | exact (hM.bytes0 (by assumption)).src), (fun _ _ => by (repeat (first | exact .here _ _ _ | apply Swap.there)); done), (by first | assumption | exact Len.map (by assumption) _ | rfl | exact Len.map (by rfl) _ | exact Len.of (by simp; done) | exact W32_len (Sha.laying_len _ _ (by omega)) | exact Len.map (W32_len (Sha.laying_len _ _ (by omega))) _ | exact dig_len (by assumption) (by assumption) | exact Len.map (dig_len (by assumption) (by assumption)) _), (by first | assumption | exact Len.map (by assumption) _ | rfl | exact Len.map (by rfl) _ | exact Len.of (by simp; done) | exact W32_len (Sha.laying_len _ _ (by omega)) | exact Len.map (W32_len (Sha.laying_len _ _ (by omega))) _ | exact dig_len (by assumption) (by assumption) | exact Len.map (dig_len (by assumption) (by assumption)) _), (by first | assumption | (simp [maxLen]; done) | omega | (simp [maxLen]; omega)), (by first | omega | (simp only [Len] at *; omega) | (simp; omega)), ?_⟩; intro _ _ _ hM2 _ _; clear hM; have hM := hM2; clear hM2) | ((first | (with_reducible refine gL_field ?_) | ((with_reducible refine gG_field ?_ ?_); (exact wanted_of rfl rfl rfl rfl rfl))); refine ⟨_, _, rfl, (by (first | (exact field_one (fb_of rfl) rfl) | (exact field_agg (fa_of rfl) rfl))), ?_⟩))
          rw [HN.out] at hM
          go_roundw
          case rel => exact ⟨t + 1, by omega, by omega, by go_num, hM⟩
          case measure => simp [intOf]; omega
          --]
        · have : t = 64 := by omega
          subst this
          have hWl : (Sha.wl c 64).length = 64 := Sha.wl_len _ _
          have HP : Hid (Sha.piece s c = Sha.plus s (Sha.rnd s (Sha.wl c 64) 64)) := Lib.hid (Sha.piece_eq s c)
          rw [Sha.laying_all] at hM
          generalize Sha.wl c 64 = W at *
          rw [show Value.int IntKind.i64 ((64 : Nat) : Int) = Value.int IntKind.i64 64 from rfl]
          replace hM := (hM.mono (H := [g]) (by simp)).takeIn (hM.row hR (by simp)) (dig_len hs hb) (by simp) (by
            have hlt := hR.lt
            have := hM.mem_new (.head _)
            simp
            omega)
          have hl3 : Len (W.map W32) 64 := W32_len hWl
          have hl4 : Len (s.map W32) 8 := W32_len hs
          go_wp2_with (first | ((first | ((with_reducible refine gL_alloc (dst := some 11) hM ?_); refine ⟨_, _, (zr_of rfl), ?_⟩) | ((with_reducible refine gL_box (dst := some 11) hM ?_); refine ⟨_, _, _, rfl, rfl, (by first | assumption | exact Len.map (by assumption) _ | rfl | exact Len.map (by rfl) _ | exact Len.of (by simp; done) | exact W32_len (Sha.laying_len _ _ (by omega)) | exact Len.map (W32_len (Sha.laying_len _ _ (by omega))) _ | exact dig_len (by assumption) (by assumption) | exact Len.map (dig_len (by assumption) (by assumption)) _), ?_⟩)); intro g11 _ hM2; clear hM; have hM := hM2; clear hM2) | go_skip | ((first | (with_reducible refine gL_load ?_) | ((with_reducible refine gG_load ?_ ?_); (exact wanted_of rfl rfl rfl rfl rfl))); refine ⟨_, _, rfl, (by (first | (exact loads_dig_s hM (by (repeat (first | exact .head _ | apply List.Mem.tail)); done) hs) | (exact loads_dig_n hM (by (repeat (first | exact .head _ | apply List.Mem.tail)); done) hs hb) | (assumption) | (exact hM.loads_B8 (by (repeat (first | exact .head _ | apply List.Mem.tail)); done) (on_of rfl) (by first | omega | (simp only [Len] at *; omega) | (simp; omega))) | (exact hM.loads_all (by (repeat (first | exact .head _ | apply List.Mem.tail)); done) (ag_of rfl) (by first | assumption | exact Len.map (by assumption) _ | rfl | exact Len.map (by rfl) _ | exact Len.of (by simp; done) | exact W32_len (Sha.laying_len _ _ (by omega)) | exact Len.map (W32_len (Sha.laying_len _ _ (by omega))) _ | exact dig_len (by assumption) (by assumption) | exact Len.map (dig_len (by assumption) (by assumption)) _)) | (exact hM.loads_one (by (repeat (first | exact .head _ | apply List.Mem.tail)); done) (on_of rfl) rfl) | (exact hM.loads_W32 (by (repeat (first | exact .head _ | apply List.Mem.tail)); done) (on_of rfl) (by first | omega | (simp only [Len] at *; omega) | (simp; omega))) | (exact loads_cell (by assumption) (on_of rfl)))), ?_⟩) | ((with_reducible refine gL_store hM ?_); refine ⟨_, _, _, rfl, rfl, (by (first | (exact stores_dig_s hM (by (repeat (first | exact .here _ _ _ | apply Has.there)); done) (by assumption) (by assumption)) | (exact hM.stores_B8 (by first | exact (rfl : B8 _ = B8 _) | exact lit8 _ (by decide)) (by (repeat (first | exact .here _ _ _ | apply Has.there)); done) (on_of rfl) (by first | omega | (simp only [Len] at *; omega) | (simp; omega))) | (exact hM.stores_all (by (repeat (first | exact .here _ _ _ | apply Has.there)); done) (ag_of rfl) (by first | assumption | exact Len.map (by assumption) _ | rfl | exact Len.map (by rfl) _ | exact Len.of (by simp; done) | exact W32_len (Sha.laying_len _ _ (by omega)) | exact Len.map (W32_len (Sha.laying_len _ _ (by omega))) _ | exact dig_len (by assumption) (by assumption) | exact Len.map (dig_len (by assumption) (by assumption)) _) (by first | assumption | exact Len.map (by assumption) _ | rfl | exact Len.map (by rfl) _ | exact Len.of (by simp; done) | exact W32_len (Sha.laying_len _ _ (by omega)) | exact Len.map (W32_len (Sha.laying_len _ _ (by omega))) _ | exact dig_len (by assumption) (by assumption) | exact Len.map (dig_len (by assumption) (by assumption)) _) (by first | exact B8_one | exact W32_one | exact one_of_all rfl)) | (exact hM.stores_W32 rfl (by (repeat (first | exact .here _ _ _ | apply Has.there)); done) (on_of rfl) (by first | omega | (simp only [Len] at *; omega) | (simp; omega))) | (exact hM.stores_one (by (repeat (first | exact .here _ _ _ | apply Has.there)); done) (on_of rfl) (by first | omega | (simp only [Len] at *; omega) | (simp; omega)) rfl rfl))), ?_⟩; intro _ hM2; clear hM; have hM := hM2; clear hM2) | ((with_reducible refine gL_alloc hM ?_); refine ⟨_, _, (zr_of rfl), ?_⟩; intro _ _ hM2; clear hM; have hM := hM2; clear hM2) | ((with_reducible refine gL_box hM ?_); refine ⟨_, _, _, rfl, rfl, (by first | assumption | exact Len.map (by assumption) _ | rfl | exact Len.map (by rfl) _ | exact Len.of (by simp; done) | exact W32_len (Sha.laying_len _ _ (by omega)) | exact Len.map (W32_len (Sha.laying_len _ _ (by omega))) _ | exact dig_len (by assumption) (by assumption) | exact Len.map (dig_len (by assumption) (by assumption)) _), ?_⟩; intro _ _ hM2; clear hM; have hM := hM2; clear hM2) | ((with_reducible refine gL_build0 ?_); refine ⟨_, _, _, _, _, _, (zr_of rfl), (ua_of rfl), (ag_of rfl), (el_of rfl), ?_⟩) | ((with_reducible refine gL_buildBytes hM ?_); refine ⟨_, _, (us_of rfl), (el_of rfl), (by decide), (by decide), rfl, (by (repeat (first | exact EvB.nil | apply EvB.cons rfl (by first | exact (rfl : B8 _ = B8 _) | exact lit8 _ (by decide)))); done), ?_⟩; intro _ _ hM2; clear hM; have hM := hM2; clear hM2) | ((with_reducible refine gL_append_B hM ?_); refine ⟨_, _, _, _, _, _, _, _, _, _, rfl, rfl, (by first | exact (rfl : Value.slice (some ⟨_, 0, none⟩) _ _ = sl (some _) _ _) | exact (rfl : Value.slice none _ _ = sl none _ _) | rfl), (us_of rfl), (el_of rfl), (by first | exact hM.src (by (repeat (first | exact .head _ | apply List.Mem.tail)); done) | exact (hM.bytes0 (by assumption)).src), (fun _ _ => by (repeat (first | exact .here _ _ _ | apply Swap.there)); done), (by first | assumption | exact Len.map (by assumption) _ | rfl | exact Len.map (by rfl) _ | exact Len.of (by simp; done) | exact W32_len (Sha.laying_len _ _ (by omega)) | exact Len.map (W32_len (Sha.laying_len _ _ (by omega))) _ | exact dig_len (by assumption) (by assumption) | exact Len.map (dig_len (by assumption) (by assumption)) _), (by first | assumption | exact Len.map (by assumption) _ | rfl | exact Len.map (by rfl) _ | exact Len.of (by simp; done) | exact W32_len (Sha.laying_len _ _ (by omega)) | exact Len.map (W32_len (Sha.laying_len _ _ (by omega))) _ | exact dig_len (by assumption) (by assumption) | exact Len.map (dig_len (by assumption) (by assumption)) _), (by first | assumption | (simp [maxLen]; done) | omega | (simp [maxLen]; omega)), (by first | omega | (simp only [Len] at *; omega) | (simp; omega)), ?_⟩; intro _ _ _ hM2 _ _; clear hM; have hM := hM2; clear hM2) | ((first | (with_reducible refine gL_field ?_) | ((with_reducible refine gG_field ?_ ?_); (exact wanted_of rfl rfl rfl rfl rfl))); refine ⟨_, _, rfl, (by (first | (exact field_one (fb_of rfl) rfl) | (exact field_agg (fa_of rfl) rfl))), ?_⟩))
          go_loopw [12, 13, 14, 87] (fun _ _ _ i wr => ∃ t : Nat, t ≤ 64 ∧ i = .int .i64 t ∧ Mem [g] w0 wr [⟨some g11, 111, (Sha.rnd s W t).map W32, 8⟩, ⟨some g, 118, dig s b n, 137⟩, ⟨some g4, 113, W.map W32, 64⟩]) (fun _ _ _ i _ => 64 - (intOf i).toNat)
          case atStart => exact ⟨0, by omega, rfl, hM⟩
          case round =>
            clear hM
            obtain ⟨t, ht, rfl, hM⟩ := hrel
            have hrl := Sha.rnd_len s W t hs
            by_cases hlt : t < 64
            · --[
              have hti : (t : Int) < 64 := by omega
              have HS := Lib.hid (show Sha.rnd s W (t + 1) = Sha.round (Sha.rnd s W t) (gw Sha.ks t) (gw W t) from rfl)
              generalize Sha.rnd s W t = R at *
              go_wp2_with (first | go_skip | ((first | (with_reducible refine gL_load ?_) | ((with_reducible refine gG_load ?_ ?_); (exact wanted_of rfl rfl rfl rfl rfl))); refine ⟨_, _, rfl, (by (first | (exact loads_dig_s hM (by (repeat (first | exact .head _ | apply List.Mem.tail)); done) hs) | (exact loads_dig_n hM (by (repeat (first | exact .head _ | apply List.Mem.tail)); done) hs hb) | (assumption) | (exact hM.loads_B8 (by (repeat (first | exact .head _ | apply List.Mem.tail)); done) (on_of rfl) (by first | omega | (simp only [Len] at *; omega) | (simp; omega))) | (exact hM.loads_all (by (repeat (first | exact .head _ | apply List.Mem.tail)); done) (ag_of rfl) (by first | assumption | exact Len.map (by assumption) _ | rfl | exact Len.map (by rfl) _ | exact Len.of (by simp; done) | exact W32_len (Sha.laying_len _ _ (by omega)) | exact Len.map (W32_len (Sha.laying_len _ _ (by omega))) _ | exact dig_len (by assumption) (by assumption) | exact Len.map (dig_len (by assumption) (by assumption)) _)) | (exact hM.loads_one (by (repeat (first | exact .head _ | apply List.Mem.tail)); done) (on_of rfl) rfl) | (exact hM.loads_W32 (by (repeat (first | exact .head _ | apply List.Mem.tail)); done) (on_of rfl) (by first | omega | (simp only [Len] at *; omega) | (simp; omega))) | (exact loads_cell (by assumption) (on_of rfl)))), ?_⟩) | ((with_reducible refine gL_store hM ?_); refine ⟨_, _, _, rfl, rfl, (by (first | (exact stores_dig_s hM (by (repeat (first | exact .here _ _ _ | apply Has.there)); done) (by assumption) (by assumption)) | (exact hM.stores_B8 (by first | exact (rfl : B8 _ = B8 _) | exact lit8 _ (by decide)) (by (repeat (first | exact .here _ _ _ | apply Has.there)); done) (on_of rfl) (by first | omega | (simp only [Len] at *; omega) | (simp; omega))) | (exact hM.stores_all (by (repeat (first | exact .here _ _ _ | apply Has.there)); done) (ag_of rfl) (by first | assumption | exact Len.map (by assumption) _ | rfl | exact Len.map (by rfl) _ | exact Len.of (by simp; done) | exact W32_len (Sha.laying_len _ _ (by omega)) | exact Len.map (W32_len (Sha.laying_len _ _ (by omega))) _ | exact dig_len (by assumption) (by assumption) | exact Len.map (dig_len (by assumption) (by assumption)) _) (by first | assumption | exact Len.map (by assumption) _ | rfl | exact Len.map (by rfl) _ | exact Len.of (by simp; done) | exact W32_len (Sha.laying_len _ _ (by omega)) | exact Len.map (W32_len (Sha.laying_len _ _ (by omega))) _ | exact dig_len (by assumption) (by assumption) | exact Len.map (dig_len (by assumption) (by assumption)) _) (by first | exact B8_one | exact W32_one | exact one_of_all rfl)) | (exact hM.stores_W32 rfl (by (repeat (first | exact .here _ _ _ | apply Has.there)); done) (on_of rfl) (by first | omega | (simp only [Len] at *; omega) | (simp; omega))) | (exact hM.stores_one (by (repeat (first | exact .here _ _ _ | apply Has.there)); done) (on_of rfl) (by first | omega | (simp only [Len] at *; omega) | (simp; omega)) rfl rfl))), ?_⟩; intro _ hM2; clear hM; have hM := hM2; clear hM2) | ((with_reducible refine gL_alloc hM ?_); refine ⟨_, _, (zr_of rfl), ?_⟩; intro _ _ hM2; clear hM; have hM := hM2; clear hM2) | ((with_reducible refine gL_box hM ?_); refine ⟨_, _, _, rfl, rfl, (by first | assumption | exact Len.map (by assumption) _ | rfl | exact Len.map (by rfl) _ | exact Len.of (by simp; done) | exact W32_len (Sha.laying_len _ _ (by omega)) | exact Len.map (W32_len (Sha.laying_len _ _ (by omega))) _ | exact dig_len (by assumption) (by assumption) | exact Len.map (dig_len (by assumption) (by assumption)) _), ?_⟩; intro _ _ hM2; clear hM; have hM := hM2; clear hM2) | ((with_reducible refine gL_build0 ?_); refine ⟨_, _, _, _, _, _, (zr_of rfl), (ua_of rfl), (ag_of rfl), (el_of rfl), ?_⟩) | ((with_reducible refine gL_buildBytes hM ?_); refine ⟨_, _, (us_of rfl), (el_of rfl), (by decide), (by decide), rfl, (by (repeat (first | exact EvB.nil | apply EvB.cons rfl (by first | exact (rfl : B8 _ = B8 _) | exact lit8 _ (by decide)))); done), ?_⟩; intro _ _ hM2; clear hM; have hM := hM2; clear hM2) | ((with_reducible refine gL_append_B hM ?_); refine ⟨_, _, _, _, _, _, _, _, _, _, rfl, rfl, (by first | exact (rfl : Value.slice (some ⟨_, 0, none⟩) _ _ = sl (some _) _ _) | exact (rfl : Value.slice none _ _ = sl none _ _) | rfl), (us_of rfl), (el_of rfl), (by first | exact hM.src (by (repeat (first | exact .head _ | apply List.Mem.tail)); done) | exact (hM.bytes0 (by assumption)).src), (fun _ _ => by (repeat (first | exact .here _ _ _ | apply Swap.there)); done), (by first | assumption | exact Len.map (by assumption) _ | rfl | exact Len.map (by rfl) _ | exact Len.of (by simp; done) | exact W32_len (Sha.laying_len _ _ (by omega)) | exact Len.map (W32_len (Sha.laying_len _ _ (by omega))) _ | exact dig_len (by assumption) (by assumption) | exact Len.map (dig_len (by assumption) (by assumption)) _), (by first | assumption | exact Len.map (by assumption) _ | rfl | exact Len.map (by rfl) _ | exact Len.of (by simp; done) | exact W32_len (Sha.laying_len _ _ (by omega)) | exact Len.map (W32_len (Sha.laying_len _ _ (by omega))) _ | exact dig_len (by assumption) (by assumption) | exact Len.map (dig_len (by assumption) (by assumption)) _), (by first | assumption | (simp [maxLen]; done) | omega | (simp [maxLen]; omega)), (by first | omega | (simp only [Len] at *; omega) | (simp; omega)), ?_⟩; intro _ _ _ hM2 _ _; clear hM; have hM := hM2; clear hM2) | ((first | (with_reducible refine gL_field ?_) | ((with_reducible refine gG_field ?_ ?_); (exact wanted_of rfl rfl rfl rfl rfl))); refine ⟨_, _, rfl, (by (first | (exact field_one (fb_of rfl) rfl) | (exact field_agg (fa_of rfl) rfl))), ?_⟩))
              try simp only [Act.put, List.setIfInBounds_toArray, List.set_cons_succ, List.set_cons_zero]
              refine wp_region_tail 39 (by decide) (fun c vals => ⟨#[(Value.pointer (some ⟨g, 0, none⟩) : Value), c 1, c 2, c 3, (Value.pointer (some ⟨g4, 0, none⟩) : Value), c 5, c 6, c 7, c 8, c 9, c 10, (Value.pointer (some ⟨g11, 0, none⟩) : Value), (Value.int .i64 ((t : Nat) : Int) : Value), vals 38, c 14, c 15, c 16, c 17, c 18, c 19, c 20, c 21, c 22, c 23, c 24, c 25, c 26, c 27, c 28, c 29, c 30, c 31, c 32, c 33, c 34, c 35, c 36, c 37, c 38, c 39, c 40, c 41, c 42, c 43, c 44, c 45, c 46, c 47, c 48, c 49, c 50, c 51, c 52, c 53, c 54, c 55, c 56, c 57, c 58, c 59, c 60, c 61, c 62, c 63, c 64, c 65, c 66, c 67, c 68, c 69, c 70, c 71, c 72, c 73, c 74, c 75, c 76, c 77, c 78, c 79, c 80, c 81, c 82, c 83, c 84, c 85, c 86, c 87, c 88, c 89, vals 0, vals 1, vals 2, vals 3, vals 4, vals 5, vals 6, vals 7, vals 8, vals 9, vals 10, vals 11, vals 12, vals 13, vals 14, vals 15, vals 16, vals 17, vals 18, vals 19, vals 20, vals 21, vals 22, vals 23, vals 24, vals 25, vals 26, vals 27, vals 28, vals 29, vals 30, vals 31, vals 32, vals 33, vals 34, vals 35, vals 36, vals 37, c 128, c 129, c 130, c 131, c 132, c 133, c 134, c 135, c 136, c 137, c 138, c 139, c 140, c 141, c 142, c 143, c 144, c 145, c 146, c 147, c 148, c 149, c 150, c 151, c 152, c 153, c 154, c 155, c 156, c 157, c 158, c 159, c 160, c 161, c 162, c 163, c 164, c 165, c 166, c 167, c 168, c 169, c 170, c 171, c 172, c 173, c 174, c 175, c 176, c 177, c 178, c 179, c 180, c 181, c 182, c 183, c 184, c 185, c 186, c 187, c 188, c 189, c 190, c 191, c 192, c 193, c 194], []⟩) (fun t => [undef, _, _, _, undef, _, _, _, _, _, _, undef, undef, undef, _, _, _, _, _, _, _, _, _, _, _, _, _, _, _, _, _, _, _, _, _, _, _, _, _, _, _, _, _, _, _, _, _, _, _, _, _, _, _, _, _, _, _, _, _, _, _, _, _, _, _, _, _, _, _, _, _, _, _, _, _, _, _, _, _, _, _, _, _, _, _, _, _, _, _, _, undef, undef, undef, undef, undef, undef, undef, undef, undef, undef, undef, undef, undef, undef, undef, undef, undef, undef, undef, undef, undef, undef, undef, undef, undef, undef, undef, undef, undef, undef, undef, undef, undef, undef, undef, undef, undef, undef, _, _, _, _, _, _, _, _, _, _, _, _, _, _, _, _, _, _, _, _, _, _, _, _, _, _, _, _, _, _, _, _, _, _, _, _, _, _, _, _, _, _, _, _, _, _, _, _, _, _, _, _, _, _, _, _, _, _, _, _, _, _, _, _, _, _, _].getD t undef) (fun i => [_, _, _, _, _, _, _, _, _, _, _, _, _, _, _, _, _, _, _, _, _, _, _, _, _, _, _, _, _, _, _, _, _, _, _, _, _, _, _].getD i undef) (by kernel_rfl)
                [[], [0], [], [2], [2, 3], [], [5], [2, 3, 4, 5, 6], [2, 3, 4, 5, 6, 7], [], [9], [2, 3, 4, 5, 6, 7, 9, 10], [2, 3, 4, 5, 6, 7, 8, 9, 10, 11], [0, 1, 2, 3, 4, 5, 6, 7, 8, 9, 10, 11, 12], [], [14], [], [16], [14, 15, 16, 17], [], [19], [19, 20], [], [22], [19, 20, 21, 22, 23], [14, 15, 16, 17, 18, 19, 20, 21, 22, 23, 24], [0, 1, 2, 3, 4, 5, 6, 7, 8, 9, 10, 11, 12, 13, 14, 15, 16, 17, 18, 19, 20, 21, 22, 23, 24, 25], [], [], [27], [27, 29], [27, 28, 29, 30], [27, 28, 29, 30, 31], [0, 1, 2, 3, 4, 5, 6, 7, 8, 9, 10, 11, 12, 13, 14, 15, 16, 17, 18, 19, 20, 21, 22, 23, 24, 25, 26, 27, 28, 29, 30, 31, 32], [], [34], [34, 35], [0, 1, 2, 3, 4, 5, 6, 7, 8, 9, 10, 11, 12, 13, 14, 15, 16, 17, 18, 19, 20, 21, 22, 23, 24, 25, 26, 27, 28, 29, 30, 31, 32, 33, 34, 35, 36], [0, 1, 2, 3, 4, 5, 6, 7, 8, 9, 10, 11, 12, 13, 14, 15, 16, 17, 18, 19, 20, 21, 22, 23, 24, 25, 26, 27, 28, 29, 30, 31, 32, 33, 34, 35, 36, 37]] (by kernel_rfl) (by kernel_rfl) (fun _ => True) trivial
                [fun x _ => x = (Value.pointer (some ⟨g11, 7, none⟩) : Value),
                 fun x _ => x = (W32 (gw R 7) : Value),
                 fun x _ => x = (Value.pointer (some ⟨g11, 4, none⟩) : Value),
                 fun x _ => x = (W32 (gw R 4) : Value),
                 fun x _ => x = (W32 (Sha.turned (gw R 4) 6) : Value),
                 fun x _ => x = (Value.pointer (some ⟨g11, 4, none⟩) : Value),
                 fun x _ => x = (W32 (gw R 4) : Value),
                 fun x _ => x = (W32 (Sha.turned (gw R 4) 11) : Value),
                 fun x _ => x = (W32 ((Sha.turned (gw R 4) 6) ^^^ (Sha.turned (gw R 4) 11)) : Value),
                 fun x _ => x = (Value.pointer (some ⟨g11, 4, none⟩) : Value),
                 fun x _ => x = (W32 (gw R 4) : Value),
                 fun x _ => x = (W32 (Sha.turned (gw R 4) 25) : Value),
                 fun x _ => x = (W32 (((Sha.turned (gw R 4) 6) ^^^ (Sha.turned (gw R 4) 11)) ^^^ (Sha.turned (gw R 4) 25)) : Value),
                 fun x _ => x = (W32 ((gw R 7) + (((Sha.turned (gw R 4) 6) ^^^ (Sha.turned (gw R 4) 11)) ^^^ (Sha.turned (gw R 4) 25))) : Value),
                 fun x _ => x = (Value.pointer (some ⟨g11, 4, none⟩) : Value),
                 fun x _ => x = (W32 (gw R 4) : Value),
                 fun x _ => x = (Value.pointer (some ⟨g11, 5, none⟩) : Value),
                 fun x _ => x = (W32 (gw R 5) : Value),
                 fun x _ => x = (W32 ((gw R 4) &&& (gw R 5)) : Value),
                 fun x _ => x = (Value.pointer (some ⟨g11, 4, none⟩) : Value),
                 fun x _ => x = (W32 (gw R 4) : Value),
                 fun x _ => x = (W32 (~~~(gw R 4)) : Value),
                 fun x _ => x = (Value.pointer (some ⟨g11, 6, none⟩) : Value),
                 fun x _ => x = (W32 (gw R 6) : Value),
                 fun x _ => x = (W32 ((~~~(gw R 4)) &&& (gw R 6)) : Value),
                 fun x _ => x = (W32 (((gw R 4) &&& (gw R 5)) ^^^ ((~~~(gw R 4)) &&& (gw R 6))) : Value),
                 fun x _ => x = (W32 (((gw R 7) + (((Sha.turned (gw R 4) 6) ^^^ (Sha.turned (gw R 4) 11)) ^^^ (Sha.turned (gw R 4) 25))) + (((gw R 4) &&& (gw R 5)) ^^^ ((~~~(gw R 4)) &&& (gw R 6)))) : Value),
                 fun x _ => x = (Value.pointer (some ⟨g, 0, none⟩) : Value),
                 fun x _ => x = (Value.int .i64 ((t : Nat) : Int) : Value),
                 fun x _ => x = (Value.pointer (some ⟨g, 0, none⟩) : Value),
                 fun x _ => x = (Value.pointer (some ⟨g, 73, none⟩) : Value),
                 fun x _ => x = (Value.pointer (some ⟨g, 73 + t, none⟩) : Value),
                 fun x _ => x = (W32 (gw Sha.ks t) : Value),
                 fun x _ => x = (W32 ((((gw R 7) + (((Sha.turned (gw R 4) 6) ^^^ (Sha.turned (gw R 4) 11)) ^^^ (Sha.turned (gw R 4) 25))) + (((gw R 4) &&& (gw R 5)) ^^^ ((~~~(gw R 4)) &&& (gw R 6)))) + (gw Sha.ks t)) : Value),
                 fun x _ => x = (Value.int .i64 ((t : Nat) : Int) : Value),
                 fun x _ => x = (Value.pointer (some ⟨g4, t, none⟩) : Value),
                 fun x _ => x = (W32 (gw W t) : Value),
                 fun x _ => x = (W32 (((((gw R 7) + (((Sha.turned (gw R 4) 6) ^^^ (Sha.turned (gw R 4) 11)) ^^^ (Sha.turned (gw R 4) 25))) + (((gw R 4) &&& (gw R 5)) ^^^ ((~~~(gw R 4)) &&& (gw R 6)))) + (gw Sha.ks t)) + (gw W t)) : Value),
                 fun x _ => x = (W32 (Sha.one R (gw Sha.ks t) (gw W t)) : Value)]
                ⟨fun _ _ _ h _ => h, fun _ _ _ h _ => h, fun _ _ _ h _ => h, fun _ _ _ h _ => h, fun _ _ _ h _ => h, fun _ _ _ h _ => h, fun _ _ _ h _ => h, fun _ _ _ h _ => h, fun _ _ _ h _ => h, fun _ _ _ h _ => h, fun _ _ _ h _ => h, fun _ _ _ h _ => h, fun _ _ _ h _ => h, fun _ _ _ h _ => h, fun _ _ _ h _ => h, fun _ _ _ h _ => h, fun _ _ _ h _ => h, fun _ _ _ h _ => h, fun _ _ _ h _ => h, fun _ _ _ h _ => h, fun _ _ _ h _ => h, fun _ _ _ h _ => h, fun _ _ _ h _ => h, fun _ _ _ h _ => h, fun _ _ _ h _ => h, fun _ _ _ h _ => h, fun _ _ _ h _ => h, fun _ _ _ h _ => h, fun _ _ _ h _ => h, fun _ _ _ h _ => h, fun _ _ _ h _ => h, fun _ _ _ h _ => h, fun _ _ _ h _ => h, fun _ _ _ h _ => h, fun _ _ _ h _ => h, fun _ _ _ h _ => h, fun _ _ _ h _ => h, fun _ _ _ h _ => h, fun _ _ _ h _ => h, trivial⟩ []
                ⟨?_, ?_, ?_, ?_, ?_, ?_, ?_, ?_, ?_, ?_, ?_, ?_, ?_, ?_, ?_, ?_, ?_, ?_, ?_, ?_, ?_, ?_, ?_, ?_, ?_, ?_, ?_, ?_, ?_, ?_, ?_, ?_, ?_, ?_, ?_, ?_, ?_, ?_, ?_, trivial⟩ ?_
              · refine showA_op 0 (by intro _ _ _; kernel_rfl) rfl rfl (fun c vals w hC hD => ?_)
                clear hD
                refine makes1 (x := .tmp 11) (X := Value.pointer (some ⟨g11, 0, none⟩)) (by kernel_rfl : _ = (Value.pointer (some ⟨g11, 0, none⟩) : Value)) (fun ρ rc rf q11 => ?_)
                refine makes_value (v := Value.pointer (some ⟨g11, 7, none⟩)) ?_ ⟨Adds.refl _, rfl⟩
                go_simp
                all_goals first | done | rfl | (rw [if_pos (by omega)]; refine congrArg (fun x => Result.ok (Next.value (Value.pointer (some ⟨_, x, none⟩))) _) ?_; omega) | (rw [wrapP_i64]; omega) | go_num | (simp; done) | (simp; omega) | (congr 1; first | rfl | (rw [wrapP_i64]; omega) | (congr 1; first | rfl | (simp; done) | (simp; omega) | (congr 2; omega) | go_num))
              · refine showA_op 1 (by intro _ _ _; kernel_rfl) rfl rfl (fun c vals w hC hD => ?_)
                have h0 : vals 0 = .pointer (some ⟨g11, 7, none⟩) := hD 0 rfl
                clear hD
                refine makes1 (x := .tmp 90) (X := Value.pointer (some ⟨g11, 7, none⟩)) ((by kernel_rfl : _ = vals 0).trans h0) (fun ρ rc rf q90 => ?_)
                clear h0
                exact makes_load ((hM.adds hC).loads_W32 (by (repeat (first | exact .head _ | apply List.Mem.tail)); done) (on_of rfl) (by first | omega | (simp only [Len] at *; omega) | (simp; omega))) rfl q90 ⟨Adds.refl _, rfl⟩
              · refine showA_op 2 (by intro _ _ _; kernel_rfl) rfl rfl (fun c vals w hC hD => ?_)
                clear hD
                refine makes1 (x := .tmp 11) (X := Value.pointer (some ⟨g11, 0, none⟩)) (by kernel_rfl : _ = (Value.pointer (some ⟨g11, 0, none⟩) : Value)) (fun ρ rc rf q11 => ?_)
                refine makes_value (v := Value.pointer (some ⟨g11, 4, none⟩)) ?_ ⟨Adds.refl _, rfl⟩
                go_simp
                all_goals first | done | rfl | (rw [if_pos (by omega)]; refine congrArg (fun x => Result.ok (Next.value (Value.pointer (some ⟨_, x, none⟩))) _) ?_; omega) | (rw [wrapP_i64]; omega) | go_num | (simp; done) | (simp; omega) | (congr 1; first | rfl | (rw [wrapP_i64]; omega) | (congr 1; first | rfl | (simp; done) | (simp; omega) | (congr 2; omega) | go_num))
              · refine showA_op 3 (by intro _ _ _; kernel_rfl) rfl rfl (fun c vals w hC hD => ?_)
                have h2 : vals 2 = .pointer (some ⟨g11, 4, none⟩) := hD 2 rfl
                clear hD
                refine makes1 (x := .tmp 92) (X := Value.pointer (some ⟨g11, 4, none⟩)) ((by kernel_rfl : _ = vals 2).trans h2) (fun ρ rc rf q92 => ?_)
                clear h2
                exact makes_load ((hM.adds hC).loads_W32 (by (repeat (first | exact .head _ | apply List.Mem.tail)); done) (on_of rfl) (by first | omega | (simp only [Len] at *; omega) | (simp; omega))) rfl q92 ⟨Adds.refl _, rfl⟩
              · refine showA_op 4 (by intro _ _ _; kernel_rfl) rfl rfl (fun c vals w hC hD => ?_)
                have h3 : vals 3 = W32 (gw R 4) := hD 3 rfl
                clear hD
                refine makes1 (x := .tmp 93) (X := W32 (gw R 4)) ((by kernel_rfl : _ = vals 3).trans h3) (fun ρ rc rf q93 => ?_)
                clear h3
                refine makes_call (sha_turn_b _ (gw R 4) 6 (by decide) (by decide)) ?_ (by rintro e w' ⟨rfl, hb⟩; exact ⟨_, rfl, hb, rfl⟩)
                go_simp
              · refine showA_op 5 (by intro _ _ _; kernel_rfl) rfl rfl (fun c vals w hC hD => ?_)
                clear hD
                refine makes1 (x := .tmp 11) (X := Value.pointer (some ⟨g11, 0, none⟩)) (by kernel_rfl : _ = (Value.pointer (some ⟨g11, 0, none⟩) : Value)) (fun ρ rc rf q11 => ?_)
                refine makes_value (v := Value.pointer (some ⟨g11, 4, none⟩)) ?_ ⟨Adds.refl _, rfl⟩
                go_simp
                all_goals first | done | rfl | (rw [if_pos (by omega)]; refine congrArg (fun x => Result.ok (Next.value (Value.pointer (some ⟨_, x, none⟩))) _) ?_; omega) | (rw [wrapP_i64]; omega) | go_num | (simp; done) | (simp; omega) | (congr 1; first | rfl | (rw [wrapP_i64]; omega) | (congr 1; first | rfl | (simp; done) | (simp; omega) | (congr 2; omega) | go_num))
              · refine showA_op 6 (by intro _ _ _; kernel_rfl) rfl rfl (fun c vals w hC hD => ?_)
                have h5 : vals 5 = .pointer (some ⟨g11, 4, none⟩) := hD 5 rfl
                clear hD
                refine makes1 (x := .tmp 95) (X := Value.pointer (some ⟨g11, 4, none⟩)) ((by kernel_rfl : _ = vals 5).trans h5) (fun ρ rc rf q95 => ?_)
                clear h5
                exact makes_load ((hM.adds hC).loads_W32 (by (repeat (first | exact .head _ | apply List.Mem.tail)); done) (on_of rfl) (by first | omega | (simp only [Len] at *; omega) | (simp; omega))) rfl q95 ⟨Adds.refl _, rfl⟩
              · refine showA_op 7 (by intro _ _ _; kernel_rfl) rfl rfl (fun c vals w hC hD => ?_)
                have h6 : vals 6 = W32 (gw R 4) := hD 6 rfl
                clear hD
                refine makes1 (x := .tmp 96) (X := W32 (gw R 4)) ((by kernel_rfl : _ = vals 6).trans h6) (fun ρ rc rf q96 => ?_)
                clear h6
                refine makes_call (sha_turn_b _ (gw R 4) 11 (by decide) (by decide)) ?_ (by rintro e w' ⟨rfl, hb⟩; exact ⟨_, rfl, hb, rfl⟩)
                go_simp
              · refine showA_op 8 (by intro _ _ _; kernel_rfl) rfl rfl (fun c vals w hC hD => ?_)
                have h4 : vals 4 = W32 (Sha.turned (gw R 4) 6) := hD 4 rfl
                have h7 : vals 7 = W32 (Sha.turned (gw R 4) 11) := hD 7 rfl
                clear hD
                refine makes2 (x := .tmp 94) (X := W32 (Sha.turned (gw R 4) 6)) (y := .tmp 97) (Y := W32 (Sha.turned (gw R 4) 11)) ((by kernel_rfl : _ = vals 4).trans h4) ((by kernel_rfl : _ = vals 7).trans h7) (fun ρ rc rf q94 q97 => ?_)
                clear h4 h7
                refine makes_value (v := W32 ((Sha.turned (gw R 4) 6) ^^^ (Sha.turned (gw R 4) 11))) ?_ ⟨Adds.refl _, rfl⟩
                go_simp
                all_goals first | done | rfl | (rw [if_pos (by omega)]; refine congrArg (fun x => Result.ok (Next.value (Value.pointer (some ⟨_, x, none⟩))) _) ?_; omega) | (rw [wrapP_i64]; omega) | go_num | (simp; done) | (simp; omega) | (congr 1; first | rfl | (rw [wrapP_i64]; omega) | (congr 1; first | rfl | (simp; done) | (simp; omega) | (congr 2; omega) | go_num))
              · refine showA_op 9 (by intro _ _ _; kernel_rfl) rfl rfl (fun c vals w hC hD => ?_)
                clear hD
                refine makes1 (x := .tmp 11) (X := Value.pointer (some ⟨g11, 0, none⟩)) (by kernel_rfl : _ = (Value.pointer (some ⟨g11, 0, none⟩) : Value)) (fun ρ rc rf q11 => ?_)
                refine makes_value (v := Value.pointer (some ⟨g11, 4, none⟩)) ?_ ⟨Adds.refl _, rfl⟩
                go_simp
                all_goals first | done | rfl | (rw [if_pos (by omega)]; refine congrArg (fun x => Result.ok (Next.value (Value.pointer (some ⟨_, x, none⟩))) _) ?_; omega) | (rw [wrapP_i64]; omega) | go_num | (simp; done) | (simp; omega) | (congr 1; first | rfl | (rw [wrapP_i64]; omega) | (congr 1; first | rfl | (simp; done) | (simp; omega) | (congr 2; omega) | go_num))
              · refine showA_op 10 (by intro _ _ _; kernel_rfl) rfl rfl (fun c vals w hC hD => ?_)
                have h9 : vals 9 = .pointer (some ⟨g11, 4, none⟩) := hD 9 rfl
                clear hD
                refine makes1 (x := .tmp 99) (X := Value.pointer (some ⟨g11, 4, none⟩)) ((by kernel_rfl : _ = vals 9).trans h9) (fun ρ rc rf q99 => ?_)
                clear h9
                exact makes_load ((hM.adds hC).loads_W32 (by (repeat (first | exact .head _ | apply List.Mem.tail)); done) (on_of rfl) (by first | omega | (simp only [Len] at *; omega) | (simp; omega))) rfl q99 ⟨Adds.refl _, rfl⟩
              · refine showA_op 11 (by intro _ _ _; kernel_rfl) rfl rfl (fun c vals w hC hD => ?_)
                have h10 : vals 10 = W32 (gw R 4) := hD 10 rfl
                clear hD
                refine makes1 (x := .tmp 100) (X := W32 (gw R 4)) ((by kernel_rfl : _ = vals 10).trans h10) (fun ρ rc rf q100 => ?_)
                clear h10
                refine makes_call (sha_turn_b _ (gw R 4) 25 (by decide) (by decide)) ?_ (by rintro e w' ⟨rfl, hb⟩; exact ⟨_, rfl, hb, rfl⟩)
                go_simp
              · refine showA_op 12 (by intro _ _ _; kernel_rfl) rfl rfl (fun c vals w hC hD => ?_)
                have h8 : vals 8 = W32 ((Sha.turned (gw R 4) 6) ^^^ (Sha.turned (gw R 4) 11)) := hD 8 rfl
                have h11 : vals 11 = W32 (Sha.turned (gw R 4) 25) := hD 11 rfl
                clear hD
                refine makes2 (x := .tmp 98) (X := W32 ((Sha.turned (gw R 4) 6) ^^^ (Sha.turned (gw R 4) 11))) (y := .tmp 101) (Y := W32 (Sha.turned (gw R 4) 25)) ((by kernel_rfl : _ = vals 8).trans h8) ((by kernel_rfl : _ = vals 11).trans h11) (fun ρ rc rf q98 q101 => ?_)
                clear h8 h11
                refine makes_value (v := W32 (((Sha.turned (gw R 4) 6) ^^^ (Sha.turned (gw R 4) 11)) ^^^ (Sha.turned (gw R 4) 25))) ?_ ⟨Adds.refl _, rfl⟩
                go_simp
                all_goals first | done | rfl | (rw [if_pos (by omega)]; refine congrArg (fun x => Result.ok (Next.value (Value.pointer (some ⟨_, x, none⟩))) _) ?_; omega) | (rw [wrapP_i64]; omega) | go_num | (simp; done) | (simp; omega) | (congr 1; first | rfl | (rw [wrapP_i64]; omega) | (congr 1; first | rfl | (simp; done) | (simp; omega) | (congr 2; omega) | go_num))
              · refine showA_op 13 (by intro _ _ _; kernel_rfl) rfl rfl (fun c vals w hC hD => ?_)
                have h1 : vals 1 = W32 (gw R 7) := hD 1 rfl
                have h12 : vals 12 = W32 (((Sha.turned (gw R 4) 6) ^^^ (Sha.turned (gw R 4) 11)) ^^^ (Sha.turned (gw R 4) 25)) := hD 12 rfl
                clear hD
                refine makes2 (x := .tmp 91) (X := W32 (gw R 7)) (y := .tmp 102) (Y := W32 (((Sha.turned (gw R 4) 6) ^^^ (Sha.turned (gw R 4) 11)) ^^^ (Sha.turned (gw R 4) 25))) ((by kernel_rfl : _ = vals 1).trans h1) ((by kernel_rfl : _ = vals 12).trans h12) (fun ρ rc rf q91 q102 => ?_)
                clear h1 h12
                refine makes_value (v := W32 ((gw R 7) + (((Sha.turned (gw R 4) 6) ^^^ (Sha.turned (gw R 4) 11)) ^^^ (Sha.turned (gw R 4) 25)))) ?_ ⟨Adds.refl _, rfl⟩
                go_simp
                all_goals first | done | rfl | (rw [if_pos (by omega)]; refine congrArg (fun x => Result.ok (Next.value (Value.pointer (some ⟨_, x, none⟩))) _) ?_; omega) | (rw [wrapP_i64]; omega) | go_num | (simp; done) | (simp; omega) | (congr 1; first | rfl | (rw [wrapP_i64]; omega) | (congr 1; first | rfl | (simp; done) | (simp; omega) | (congr 2; omega) | go_num))
              · refine showA_op 14 (by intro _ _ _; kernel_rfl) rfl rfl (fun c vals w hC hD => ?_)
                clear hD
                refine makes1 (x := .tmp 11) (X := Value.pointer (some ⟨g11, 0, none⟩)) (by kernel_rfl : _ = (Value.pointer (some ⟨g11, 0, none⟩) : Value)) (fun ρ rc rf q11 => ?_)
                refine makes_value (v := Value.pointer (some ⟨g11, 4, none⟩)) ?_ ⟨Adds.refl _, rfl⟩
                go_simp
                all_goals first | done | rfl | (rw [if_pos (by omega)]; refine congrArg (fun x => Result.ok (Next.value (Value.pointer (some ⟨_, x, none⟩))) _) ?_; omega) | (rw [wrapP_i64]; omega) | go_num | (simp; done) | (simp; omega) | (congr 1; first | rfl | (rw [wrapP_i64]; omega) | (congr 1; first | rfl | (simp; done) | (simp; omega) | (congr 2; omega) | go_num))
              · refine showA_op 15 (by intro _ _ _; kernel_rfl) rfl rfl (fun c vals w hC hD => ?_)
                have h14 : vals 14 = .pointer (some ⟨g11, 4, none⟩) := hD 14 rfl
                clear hD
                refine makes1 (x := .tmp 104) (X := Value.pointer (some ⟨g11, 4, none⟩)) ((by kernel_rfl : _ = vals 14).trans h14) (fun ρ rc rf q104 => ?_)
                clear h14
                exact makes_load ((hM.adds hC).loads_W32 (by (repeat (first | exact .head _ | apply List.Mem.tail)); done) (on_of rfl) (by first | omega | (simp only [Len] at *; omega) | (simp; omega))) rfl q104 ⟨Adds.refl _, rfl⟩
              · refine showA_op 16 (by intro _ _ _; kernel_rfl) rfl rfl (fun c vals w hC hD => ?_)
                clear hD
                refine makes1 (x := .tmp 11) (X := Value.pointer (some ⟨g11, 0, none⟩)) (by kernel_rfl : _ = (Value.pointer (some ⟨g11, 0, none⟩) : Value)) (fun ρ rc rf q11 => ?_)
                refine makes_value (v := Value.pointer (some ⟨g11, 5, none⟩)) ?_ ⟨Adds.refl _, rfl⟩
                go_simp
                all_goals first | done | rfl | (rw [if_pos (by omega)]; refine congrArg (fun x => Result.ok (Next.value (Value.pointer (some ⟨_, x, none⟩))) _) ?_; omega) | (rw [wrapP_i64]; omega) | go_num | (simp; done) | (simp; omega) | (congr 1; first | rfl | (rw [wrapP_i64]; omega) | (congr 1; first | rfl | (simp; done) | (simp; omega) | (congr 2; omega) | go_num))
              · refine showA_op 17 (by intro _ _ _; kernel_rfl) rfl rfl (fun c vals w hC hD => ?_)
                have h16 : vals 16 = .pointer (some ⟨g11, 5, none⟩) := hD 16 rfl
                clear hD
                refine makes1 (x := .tmp 106) (X := Value.pointer (some ⟨g11, 5, none⟩)) ((by kernel_rfl : _ = vals 16).trans h16) (fun ρ rc rf q106 => ?_)
                clear h16
                exact makes_load ((hM.adds hC).loads_W32 (by (repeat (first | exact .head _ | apply List.Mem.tail)); done) (on_of rfl) (by first | omega | (simp only [Len] at *; omega) | (simp; omega))) rfl q106 ⟨Adds.refl _, rfl⟩
              · refine showA_op 18 (by intro _ _ _; kernel_rfl) rfl rfl (fun c vals w hC hD => ?_)
                have h15 : vals 15 = W32 (gw R 4) := hD 15 rfl
                have h17 : vals 17 = W32 (gw R 5) := hD 17 rfl
                clear hD
                refine makes2 (x := .tmp 105) (X := W32 (gw R 4)) (y := .tmp 107) (Y := W32 (gw R 5)) ((by kernel_rfl : _ = vals 15).trans h15) ((by kernel_rfl : _ = vals 17).trans h17) (fun ρ rc rf q105 q107 => ?_)
                clear h15 h17
                refine makes_value (v := W32 ((gw R 4) &&& (gw R 5))) ?_ ⟨Adds.refl _, rfl⟩
                go_simp
                all_goals first | done | rfl | (rw [if_pos (by omega)]; refine congrArg (fun x => Result.ok (Next.value (Value.pointer (some ⟨_, x, none⟩))) _) ?_; omega) | (rw [wrapP_i64]; omega) | go_num | (simp; done) | (simp; omega) | (congr 1; first | rfl | (rw [wrapP_i64]; omega) | (congr 1; first | rfl | (simp; done) | (simp; omega) | (congr 2; omega) | go_num))
              · refine showA_op 19 (by intro _ _ _; kernel_rfl) rfl rfl (fun c vals w hC hD => ?_)
                clear hD
                refine makes1 (x := .tmp 11) (X := Value.pointer (some ⟨g11, 0, none⟩)) (by kernel_rfl : _ = (Value.pointer (some ⟨g11, 0, none⟩) : Value)) (fun ρ rc rf q11 => ?_)
                refine makes_value (v := Value.pointer (some ⟨g11, 4, none⟩)) ?_ ⟨Adds.refl _, rfl⟩
                go_simp
                all_goals first | done | rfl | (rw [if_pos (by omega)]; refine congrArg (fun x => Result.ok (Next.value (Value.pointer (some ⟨_, x, none⟩))) _) ?_; omega) | (rw [wrapP_i64]; omega) | go_num | (simp; done) | (simp; omega) | (congr 1; first | rfl | (rw [wrapP_i64]; omega) | (congr 1; first | rfl | (simp; done) | (simp; omega) | (congr 2; omega) | go_num))
              · refine showA_op 20 (by intro _ _ _; kernel_rfl) rfl rfl (fun c vals w hC hD => ?_)
                have h19 : vals 19 = .pointer (some ⟨g11, 4, none⟩) := hD 19 rfl
                clear hD
                refine makes1 (x := .tmp 109) (X := Value.pointer (some ⟨g11, 4, none⟩)) ((by kernel_rfl : _ = vals 19).trans h19) (fun ρ rc rf q109 => ?_)
                clear h19
                exact makes_load ((hM.adds hC).loads_W32 (by (repeat (first | exact .head _ | apply List.Mem.tail)); done) (on_of rfl) (by first | omega | (simp only [Len] at *; omega) | (simp; omega))) rfl q109 ⟨Adds.refl _, rfl⟩
              · refine showA_op 21 (by intro _ _ _; kernel_rfl) rfl rfl (fun c vals w hC hD => ?_)
                have h20 : vals 20 = W32 (gw R 4) := hD 20 rfl
                clear hD
                refine makes1 (x := .tmp 110) (X := W32 (gw R 4)) ((by kernel_rfl : _ = vals 20).trans h20) (fun ρ rc rf q110 => ?_)
                clear h20
                refine makes_value (v := W32 (~~~(gw R 4))) ?_ ⟨Adds.refl _, rfl⟩
                go_simp
                all_goals first | done | rfl | (rw [if_pos (by omega)]; refine congrArg (fun x => Result.ok (Next.value (Value.pointer (some ⟨_, x, none⟩))) _) ?_; omega) | (rw [wrapP_i64]; omega) | go_num | (simp; done) | (simp; omega) | (congr 1; first | rfl | (rw [wrapP_i64]; omega) | (congr 1; first | rfl | (simp; done) | (simp; omega) | (congr 2; omega) | go_num))
              · refine showA_op 22 (by intro _ _ _; kernel_rfl) rfl rfl (fun c vals w hC hD => ?_)
                clear hD
                refine makes1 (x := .tmp 11) (X := Value.pointer (some ⟨g11, 0, none⟩)) (by kernel_rfl : _ = (Value.pointer (some ⟨g11, 0, none⟩) : Value)) (fun ρ rc rf q11 => ?_)
                refine makes_value (v := Value.pointer (some ⟨g11, 6, none⟩)) ?_ ⟨Adds.refl _, rfl⟩
                go_simp
                all_goals first | done | rfl | (rw [if_pos (by omega)]; refine congrArg (fun x => Result.ok (Next.value (Value.pointer (some ⟨_, x, none⟩))) _) ?_; omega) | (rw [wrapP_i64]; omega) | go_num | (simp; done) | (simp; omega) | (congr 1; first | rfl | (rw [wrapP_i64]; omega) | (congr 1; first | rfl | (simp; done) | (simp; omega) | (congr 2; omega) | go_num))
              · refine showA_op 23 (by intro _ _ _; kernel_rfl) rfl rfl (fun c vals w hC hD => ?_)
                have h22 : vals 22 = .pointer (some ⟨g11, 6, none⟩) := hD 22 rfl
                clear hD
                refine makes1 (x := .tmp 112) (X := Value.pointer (some ⟨g11, 6, none⟩)) ((by kernel_rfl : _ = vals 22).trans h22) (fun ρ rc rf q112 => ?_)
                clear h22
                exact makes_load ((hM.adds hC).loads_W32 (by (repeat (first | exact .head _ | apply List.Mem.tail)); done) (on_of rfl) (by first | omega | (simp only [Len] at *; omega) | (simp; omega))) rfl q112 ⟨Adds.refl _, rfl⟩
              · refine showA_op 24 (by intro _ _ _; kernel_rfl) rfl rfl (fun c vals w hC hD => ?_)
                have h21 : vals 21 = W32 (~~~(gw R 4)) := hD 21 rfl
                have h23 : vals 23 = W32 (gw R 6) := hD 23 rfl
                clear hD
                refine makes2 (x := .tmp 111) (X := W32 (~~~(gw R 4))) (y := .tmp 113) (Y := W32 (gw R 6)) ((by kernel_rfl : _ = vals 21).trans h21) ((by kernel_rfl : _ = vals 23).trans h23) (fun ρ rc rf q111 q113 => ?_)
                clear h21 h23
                refine makes_value (v := W32 ((~~~(gw R 4)) &&& (gw R 6))) ?_ ⟨Adds.refl _, rfl⟩
                go_simp
                all_goals first | done | rfl | (rw [if_pos (by omega)]; refine congrArg (fun x => Result.ok (Next.value (Value.pointer (some ⟨_, x, none⟩))) _) ?_; omega) | (rw [wrapP_i64]; omega) | go_num | (simp; done) | (simp; omega) | (congr 1; first | rfl | (rw [wrapP_i64]; omega) | (congr 1; first | rfl | (simp; done) | (simp; omega) | (congr 2; omega) | go_num))
              · refine showA_op 25 (by intro _ _ _; kernel_rfl) rfl rfl (fun c vals w hC hD => ?_)
                have h18 : vals 18 = W32 ((gw R 4) &&& (gw R 5)) := hD 18 rfl
                have h24 : vals 24 = W32 ((~~~(gw R 4)) &&& (gw R 6)) := hD 24 rfl
                clear hD
                refine makes2 (x := .tmp 108) (X := W32 ((gw R 4) &&& (gw R 5))) (y := .tmp 114) (Y := W32 ((~~~(gw R 4)) &&& (gw R 6))) ((by kernel_rfl : _ = vals 18).trans h18) ((by kernel_rfl : _ = vals 24).trans h24) (fun ρ rc rf q108 q114 => ?_)
                clear h18 h24
                refine makes_value (v := W32 (((gw R 4) &&& (gw R 5)) ^^^ ((~~~(gw R 4)) &&& (gw R 6)))) ?_ ⟨Adds.refl _, rfl⟩
                go_simp
                all_goals first | done | rfl | (rw [if_pos (by omega)]; refine congrArg (fun x => Result.ok (Next.value (Value.pointer (some ⟨_, x, none⟩))) _) ?_; omega) | (rw [wrapP_i64]; omega) | go_num | (simp; done) | (simp; omega) | (congr 1; first | rfl | (rw [wrapP_i64]; omega) | (congr 1; first | rfl | (simp; done) | (simp; omega) | (congr 2; omega) | go_num))
              · refine showA_op 26 (by intro _ _ _; kernel_rfl) rfl rfl (fun c vals w hC hD => ?_)
                have h13 : vals 13 = W32 ((gw R 7) + (((Sha.turned (gw R 4) 6) ^^^ (Sha.turned (gw R 4) 11)) ^^^ (Sha.turned (gw R 4) 25))) := hD 13 rfl
                have h25 : vals 25 = W32 (((gw R 4) &&& (gw R 5)) ^^^ ((~~~(gw R 4)) &&& (gw R 6))) := hD 25 rfl
                clear hD
                refine makes2 (x := .tmp 103) (X := W32 ((gw R 7) + (((Sha.turned (gw R 4) 6) ^^^ (Sha.turned (gw R 4) 11)) ^^^ (Sha.turned (gw R 4) 25)))) (y := .tmp 115) (Y := W32 (((gw R 4) &&& (gw R 5)) ^^^ ((~~~(gw R 4)) &&& (gw R 6)))) ((by kernel_rfl : _ = vals 13).trans h13) ((by kernel_rfl : _ = vals 25).trans h25) (fun ρ rc rf q103 q115 => ?_)
                clear h13 h25
                refine makes_value (v := W32 (((gw R 7) + (((Sha.turned (gw R 4) 6) ^^^ (Sha.turned (gw R 4) 11)) ^^^ (Sha.turned (gw R 4) 25))) + (((gw R 4) &&& (gw R 5)) ^^^ ((~~~(gw R 4)) &&& (gw R 6))))) ?_ ⟨Adds.refl _, rfl⟩
                go_simp
                all_goals first | done | rfl | (rw [if_pos (by omega)]; refine congrArg (fun x => Result.ok (Next.value (Value.pointer (some ⟨_, x, none⟩))) _) ?_; omega) | (rw [wrapP_i64]; omega) | go_num | (simp; done) | (simp; omega) | (congr 1; first | rfl | (rw [wrapP_i64]; omega) | (congr 1; first | rfl | (simp; done) | (simp; omega) | (congr 2; omega) | go_num))
              · refine showA_op 27 (by intro _ _ _; kernel_rfl) rfl rfl (fun c vals w hC hD => ?_)
                clear hD
                refine makes1 (x := .tmp 0) (X := Value.pointer (some ⟨g, 0, none⟩)) (by kernel_rfl : _ = (Value.pointer (some ⟨g, 0, none⟩) : Value)) (fun ρ rc rf q0 => ?_)
                exact makes_move (.inl rfl) q0 ⟨Adds.refl _, rfl⟩
              · refine showA_op 28 (by intro _ _ _; kernel_rfl) rfl rfl (fun c vals w hC hD => ?_)
                clear hD
                refine makes1 (x := .tmp 12) (X := Value.int .i64 ((t : Nat) : Int)) (by kernel_rfl : _ = (Value.int .i64 ((t : Nat) : Int) : Value)) (fun ρ rc rf q12 => ?_)
                exact makes_move (.inl rfl) q12 ⟨Adds.refl _, rfl⟩
              · refine showA_op 29 (by intro _ _ _; kernel_rfl) rfl rfl (fun c vals w hC hD => ?_)
                have h27 : vals 27 = .pointer (some ⟨g, 0, none⟩) := hD 27 rfl
                clear hD
                refine makes1 (x := .tmp 117) (X := Value.pointer (some ⟨g, 0, none⟩)) ((by kernel_rfl : _ = vals 27).trans h27) (fun ρ rc rf q117 => ?_)
                clear h27
                refine makes_value (v := Value.pointer (some ⟨g, 0, none⟩)) ?_ ⟨Adds.refl _, rfl⟩
                go_simp
                all_goals first | done | rfl | (rw [if_pos (by omega)]; refine congrArg (fun x => Result.ok (Next.value (Value.pointer (some ⟨_, x, none⟩))) _) ?_; omega) | (rw [wrapP_i64]; omega) | go_num | (simp; done) | (simp; omega) | (congr 1; first | rfl | (rw [wrapP_i64]; omega) | (congr 1; first | rfl | (simp; done) | (simp; omega) | (congr 2; omega) | go_num))
              · refine showA_op 30 (by intro _ _ _; kernel_rfl) rfl rfl (fun c vals w hC hD => ?_)
                have h29 : vals 29 = .pointer (some ⟨g, 0, none⟩) := hD 29 rfl
                clear hD
                refine makes1 (x := .tmp 119) (X := Value.pointer (some ⟨g, 0, none⟩)) ((by kernel_rfl : _ = vals 29).trans h29) (fun ρ rc rf q119 => ?_)
                clear h29
                refine makes_value (v := Value.pointer (some ⟨g, 73, none⟩)) ?_ ⟨Adds.refl _, rfl⟩
                go_simp
                all_goals first | done | rfl | (rw [if_pos (by omega)]; refine congrArg (fun x => Result.ok (Next.value (Value.pointer (some ⟨_, x, none⟩))) _) ?_; omega) | (rw [wrapP_i64]; omega) | go_num | (simp; done) | (simp; omega) | (congr 1; first | rfl | (rw [wrapP_i64]; omega) | (congr 1; first | rfl | (simp; done) | (simp; omega) | (congr 2; omega) | go_num))
              · refine showA_op 31 (by intro _ _ _; kernel_rfl) rfl rfl (fun c vals w hC hD => ?_)
                have h30 : vals 30 = .pointer (some ⟨g, 73, none⟩) := hD 30 rfl
                have h28 : vals 28 = .int .i64 ((t : Nat) : Int) := hD 28 rfl
                clear hD
                refine makes2 (x := .tmp 120) (X := Value.pointer (some ⟨g, 73, none⟩)) (y := .tmp 118) (Y := Value.int .i64 ((t : Nat) : Int)) ((by kernel_rfl : _ = vals 30).trans h30) ((by kernel_rfl : _ = vals 28).trans h28) (fun ρ rc rf q120 q118 => ?_)
                clear h30 h28
                refine makes_value (v := Value.pointer (some ⟨g, 73 + t, none⟩)) ?_ ⟨Adds.refl _, rfl⟩
                go_simp
                all_goals first | done | rfl | (rw [if_pos (by omega)]; refine congrArg (fun x => Result.ok (Next.value (Value.pointer (some ⟨_, x, none⟩))) _) ?_; omega) | (rw [wrapP_i64]; omega) | go_num | (simp; done) | (simp; omega) | (congr 1; first | rfl | (rw [wrapP_i64]; omega) | (congr 1; first | rfl | (simp; done) | (simp; omega) | (congr 2; omega) | go_num))
              · refine showA_op 32 (by intro _ _ _; kernel_rfl) rfl rfl (fun c vals w hC hD => ?_)
                have h31 : vals 31 = .pointer (some ⟨g, 73 + t, none⟩) := hD 31 rfl
                clear hD
                refine makes1 (x := .tmp 121) (X := Value.pointer (some ⟨g, 73 + t, none⟩)) ((by kernel_rfl : _ = vals 31).trans h31) (fun ρ rc rf q121 => ?_)
                clear h31
                exact makes_load (loads_dig_k (hM.adds hC) (by (repeat (first | exact .head _ | apply List.Mem.tail)); done) hs hb hlt) rfl q121 ⟨Adds.refl _, rfl⟩
              · refine showA_op 33 (by intro _ _ _; kernel_rfl) rfl rfl (fun c vals w hC hD => ?_)
                have h26 : vals 26 = W32 (((gw R 7) + (((Sha.turned (gw R 4) 6) ^^^ (Sha.turned (gw R 4) 11)) ^^^ (Sha.turned (gw R 4) 25))) + (((gw R 4) &&& (gw R 5)) ^^^ ((~~~(gw R 4)) &&& (gw R 6)))) := hD 26 rfl
                have h32 : vals 32 = W32 (gw Sha.ks t) := hD 32 rfl
                clear hD
                refine makes2 (x := .tmp 116) (X := W32 (((gw R 7) + (((Sha.turned (gw R 4) 6) ^^^ (Sha.turned (gw R 4) 11)) ^^^ (Sha.turned (gw R 4) 25))) + (((gw R 4) &&& (gw R 5)) ^^^ ((~~~(gw R 4)) &&& (gw R 6))))) (y := .tmp 122) (Y := W32 (gw Sha.ks t)) ((by kernel_rfl : _ = vals 26).trans h26) ((by kernel_rfl : _ = vals 32).trans h32) (fun ρ rc rf q116 q122 => ?_)
                clear h26 h32
                refine makes_value (v := W32 ((((gw R 7) + (((Sha.turned (gw R 4) 6) ^^^ (Sha.turned (gw R 4) 11)) ^^^ (Sha.turned (gw R 4) 25))) + (((gw R 4) &&& (gw R 5)) ^^^ ((~~~(gw R 4)) &&& (gw R 6)))) + (gw Sha.ks t))) ?_ ⟨Adds.refl _, rfl⟩
                go_simp
                all_goals first | done | rfl | (rw [if_pos (by omega)]; refine congrArg (fun x => Result.ok (Next.value (Value.pointer (some ⟨_, x, none⟩))) _) ?_; omega) | (rw [wrapP_i64]; omega) | go_num | (simp; done) | (simp; omega) | (congr 1; first | rfl | (rw [wrapP_i64]; omega) | (congr 1; first | rfl | (simp; done) | (simp; omega) | (congr 2; omega) | go_num))
              · refine showA_op 34 (by intro _ _ _; kernel_rfl) rfl rfl (fun c vals w hC hD => ?_)
                clear hD
                refine makes1 (x := .tmp 12) (X := Value.int .i64 ((t : Nat) : Int)) (by kernel_rfl : _ = (Value.int .i64 ((t : Nat) : Int) : Value)) (fun ρ rc rf q12 => ?_)
                exact makes_move (.inl rfl) q12 ⟨Adds.refl _, rfl⟩
              · refine showA_op 35 (by intro _ _ _; kernel_rfl) rfl rfl (fun c vals w hC hD => ?_)
                have h34 : vals 34 = .int .i64 ((t : Nat) : Int) := hD 34 rfl
                clear hD
                refine makes2 (x := .tmp 4) (X := Value.pointer (some ⟨g4, 0, none⟩)) (y := .tmp 124) (Y := Value.int .i64 ((t : Nat) : Int)) (by kernel_rfl : _ = (Value.pointer (some ⟨g4, 0, none⟩) : Value)) ((by kernel_rfl : _ = vals 34).trans h34) (fun ρ rc rf q4 q124 => ?_)
                clear h34
                refine makes_value (v := Value.pointer (some ⟨g4, t, none⟩)) ?_ ⟨Adds.refl _, rfl⟩
                go_simp
                all_goals first | done | rfl | (rw [if_pos (by omega)]; refine congrArg (fun x => Result.ok (Next.value (Value.pointer (some ⟨_, x, none⟩))) _) ?_; omega) | (rw [wrapP_i64]; omega) | go_num | (simp; done) | (simp; omega) | (congr 1; first | rfl | (rw [wrapP_i64]; omega) | (congr 1; first | rfl | (simp; done) | (simp; omega) | (congr 2; omega) | go_num))
              · refine showA_op 36 (by intro _ _ _; kernel_rfl) rfl rfl (fun c vals w hC hD => ?_)
                have h35 : vals 35 = .pointer (some ⟨g4, t, none⟩) := hD 35 rfl
                clear hD
                refine makes1 (x := .tmp 125) (X := Value.pointer (some ⟨g4, t, none⟩)) ((by kernel_rfl : _ = vals 35).trans h35) (fun ρ rc rf q125 => ?_)
                clear h35
                exact makes_load ((hM.adds hC).loads_W32 (by (repeat (first | exact .head _ | apply List.Mem.tail)); done) (on_of rfl) (by first | omega | (simp only [Len] at *; omega) | (simp; omega))) rfl q125 ⟨Adds.refl _, rfl⟩
              · refine showA_op 37 (by intro _ _ _; kernel_rfl) rfl rfl (fun c vals w hC hD => ?_)
                have h33 : vals 33 = W32 ((((gw R 7) + (((Sha.turned (gw R 4) 6) ^^^ (Sha.turned (gw R 4) 11)) ^^^ (Sha.turned (gw R 4) 25))) + (((gw R 4) &&& (gw R 5)) ^^^ ((~~~(gw R 4)) &&& (gw R 6)))) + (gw Sha.ks t)) := hD 33 rfl
                have h36 : vals 36 = W32 (gw W t) := hD 36 rfl
                clear hD
                refine makes2 (x := .tmp 123) (X := W32 ((((gw R 7) + (((Sha.turned (gw R 4) 6) ^^^ (Sha.turned (gw R 4) 11)) ^^^ (Sha.turned (gw R 4) 25))) + (((gw R 4) &&& (gw R 5)) ^^^ ((~~~(gw R 4)) &&& (gw R 6)))) + (gw Sha.ks t))) (y := .tmp 126) (Y := W32 (gw W t)) ((by kernel_rfl : _ = vals 33).trans h33) ((by kernel_rfl : _ = vals 36).trans h36) (fun ρ rc rf q123 q126 => ?_)
                clear h33 h36
                refine makes_value (v := W32 (((((gw R 7) + (((Sha.turned (gw R 4) 6) ^^^ (Sha.turned (gw R 4) 11)) ^^^ (Sha.turned (gw R 4) 25))) + (((gw R 4) &&& (gw R 5)) ^^^ ((~~~(gw R 4)) &&& (gw R 6)))) + (gw Sha.ks t)) + (gw W t))) ?_ ⟨Adds.refl _, rfl⟩
                go_simp
                all_goals first | done | rfl | (rw [if_pos (by omega)]; refine congrArg (fun x => Result.ok (Next.value (Value.pointer (some ⟨_, x, none⟩))) _) ?_; omega) | (rw [wrapP_i64]; omega) | go_num | (simp; done) | (simp; omega) | (congr 1; first | rfl | (rw [wrapP_i64]; omega) | (congr 1; first | rfl | (simp; done) | (simp; omega) | (congr 2; omega) | go_num))
              · refine showA_op 38 (by intro _ _ _; kernel_rfl) rfl rfl (fun c vals w hC hD => ?_)
                have h37 : vals 37 = W32 (((((gw R 7) + (((Sha.turned (gw R 4) 6) ^^^ (Sha.turned (gw R 4) 11)) ^^^ (Sha.turned (gw R 4) 25))) + (((gw R 4) &&& (gw R 5)) ^^^ ((~~~(gw R 4)) &&& (gw R 6)))) + (gw Sha.ks t)) + (gw W t)) := hD 37 rfl
                clear hD
                refine makes1 (x := .tmp 127) (X := W32 (((((gw R 7) + (((Sha.turned (gw R 4) 6) ^^^ (Sha.turned (gw R 4) 11)) ^^^ (Sha.turned (gw R 4) 25))) + (((gw R 4) &&& (gw R 5)) ^^^ ((~~~(gw R 4)) &&& (gw R 6)))) + (gw Sha.ks t)) + (gw W t))) ((by kernel_rfl : _ = vals 37).trans h37) (fun ρ rc rf q127 => ?_)
                clear h37
                exact makes_move (.inr rfl) q127 ⟨Adds.refl _, rfl⟩
              intro vals w' hC hΦ hne
              have h38 : vals 38 = W32 (Sha.one R (gw Sha.ks t) (gw W t)) := hΦ 38 (by decide)
              clear hΦ hne
              simp only [List.getD_eq_getElem?_getD, List.getElem?_cons_zero, List.getElem?_cons_succ, Option.getD_some, List.drop_succ_cons, List.drop_zero]
              simp only [h38]
              clear h38
              try simp only [tuple_undef]
              replace hM := hM.adds hC
              clear hC
              go_wp2_with (first | go_skip | ((first | (with_reducible refine gL_load ?_) | ((with_reducible refine gG_load ?_ ?_); (exact wanted_of rfl rfl rfl rfl rfl))); refine ⟨_, _, rfl, (by (first | (exact loads_dig_s hM (by (repeat (first | exact .head _ | apply List.Mem.tail)); done) hs) | (exact loads_dig_n hM (by (repeat (first | exact .head _ | apply List.Mem.tail)); done) hs hb) | (assumption) | (exact hM.loads_B8 (by (repeat (first | exact .head _ | apply List.Mem.tail)); done) (on_of rfl) (by first | omega | (simp only [Len] at *; omega) | (simp; omega))) | (exact hM.loads_all (by (repeat (first | exact .head _ | apply List.Mem.tail)); done) (ag_of rfl) (by first | assumption | exact Len.map (by assumption) _ | rfl | exact Len.map (by rfl) _ | exact Len.of (by simp; done) | exact W32_len (Sha.laying_len _ _ (by omega)) | exact Len.map (W32_len (Sha.laying_len _ _ (by omega))) _ | exact dig_len (by assumption) (by assumption) | exact Len.map (dig_len (by assumption) (by assumption)) _)) | (exact hM.loads_one (by (repeat (first | exact .head _ | apply List.Mem.tail)); done) (on_of rfl) rfl) | (exact hM.loads_W32 (by (repeat (first | exact .head _ | apply List.Mem.tail)); done) (on_of rfl) (by first | omega | (simp only [Len] at *; omega) | (simp; omega))) | (exact loads_cell (by assumption) (on_of rfl)))), ?_⟩) | ((with_reducible refine gL_store hM ?_); refine ⟨_, _, _, rfl, rfl, (by (first | (exact stores_dig_s hM (by (repeat (first | exact .here _ _ _ | apply Has.there)); done) (by assumption) (by assumption)) | (exact hM.stores_B8 (by first | exact (rfl : B8 _ = B8 _) | exact lit8 _ (by decide)) (by (repeat (first | exact .here _ _ _ | apply Has.there)); done) (on_of rfl) (by first | omega | (simp only [Len] at *; omega) | (simp; omega))) | (exact hM.stores_all (by (repeat (first | exact .here _ _ _ | apply Has.there)); done) (ag_of rfl) (by first | assumption | exact Len.map (by assumption) _ | rfl | exact Len.map (by rfl) _ | exact Len.of (by simp; done) | exact W32_len (Sha.laying_len _ _ (by omega)) | exact Len.map (W32_len (Sha.laying_len _ _ (by omega))) _ | exact dig_len (by assumption) (by assumption) | exact Len.map (dig_len (by assumption) (by assumption)) _) (by first | assumption | exact Len.map (by assumption) _ | rfl | exact Len.map (by rfl) _ | exact Len.of (by simp; done) | exact W32_len (Sha.laying_len _ _ (by omega)) | exact Len.map (W32_len (Sha.laying_len _ _ (by omega))) _ | exact dig_len (by assumption) (by assumption) | exact Len.map (dig_len (by assumption) (by assumption)) _) (by first | exact B8_one | exact W32_one | exact one_of_all rfl)) | (exact hM.stores_W32 rfl (by (repeat (first | exact .here _ _ _ | apply Has.there)); done) (on_of rfl) (by first | omega | (simp only [Len] at *; omega) | (simp; omega))) | (exact hM.stores_one (by (repeat (first | exact .here _ _ _ | apply Has.there)); done) (on_of rfl) (by first | omega | (simp only [Len] at *; omega) | (simp; omega)) rfl rfl))), ?_⟩; intro _ hM2; clear hM; have hM := hM2; clear hM2) | ((with_reducible refine gL_alloc hM ?_); refine ⟨_, _, (zr_of rfl), ?_⟩; intro _ _ hM2; clear hM; have hM := hM2; clear hM2) | ((with_reducible refine gL_box hM ?_); refine ⟨_, _, _, rfl, rfl, (by first | assumption | exact Len.map (by assumption) _ | rfl | exact Len.map (by rfl) _ | exact Len.of (by simp; done) | exact W32_len (Sha.laying_len _ _ (by omega)) | exact Len.map (W32_len (Sha.laying_len _ _ (by omega))) _ | exact dig_len (by assumption) (by assumption) | exact Len.map (dig_len (by assumption) (by assumption)) _), ?_⟩; intro _ _ hM2; clear hM; have hM := hM2; clear hM2) | ((with_reducible refine gL_build0 ?_); refine ⟨_, _, _, _, _, _, (zr_of rfl), (ua_of rfl), (ag_of rfl), (el_of rfl), ?_⟩) | ((with_reducible refine gL_buildBytes hM ?_); refine ⟨_, _, (us_of rfl), (el_of rfl), (by decide), (by decide), rfl, (by (repeat (first | exact EvB.nil | apply EvB.cons rfl (by first | exact (rfl : B8 _ = B8 _) | exact lit8 _ (by decide)))); done), ?_⟩; intro _ _ hM2; clear hM; have hM := hM2; clear hM2) | ((with_reducible refine gL_append_B hM ?_); refine ⟨_, _, _, _, _, _, _, _, _, _, rfl, rfl, (by first | exact (rfl : Value.slice (some ⟨_, 0, none⟩) _ _ = sl (some _) _ _) | exact (rfl : Value.slice none _ _ = sl none _ _) | rfl), (us_of rfl), (el_of rfl), (by first | exact hM.src (by (repeat (first | exact .head _ | apply List.Mem.tail)); done) | exact (hM.bytes0 (by assumption)).src), (fun _ _ => by (repeat (first | exact .here _ _ _ | apply Swap.there)); done), (by first | assumption | exact Len.map (by assumption) _ | rfl | exact Len.map (by rfl) _ | exact Len.of (by simp; done) | exact W32_len (Sha.laying_len _ _ (by omega)) | exact Len.map (W32_len (Sha.laying_len _ _ (by omega))) _ | exact dig_len (by assumption) (by assumption) | exact Len.map (dig_len (by assumption) (by assumption)) _), (by first | assumption | exact Len.map (by assumption) _ | rfl | exact Len.map (by rfl) _ | exact Len.of (by simp; done) | exact W32_len (Sha.laying_len _ _ (by omega)) | exact Len.map (W32_len (Sha.laying_len _ _ (by omega))) _ | exact dig_len (by assumption) (by assumption) | exact Len.map (dig_len (by assumption) (by assumption)) _), (by first | assumption | (simp [maxLen]; done) | omega | (simp [maxLen]; omega)), (by first | omega | (simp only [Len] at *; omega) | (simp; omega)), ?_⟩; intro _ _ _ hM2 _ _; clear hM; have hM := hM2; clear hM2) | ((first | (with_reducible refine gL_field ?_) | ((with_reducible refine gG_field ?_ ?_); (exact wanted_of rfl rfl rfl rfl rfl))); refine ⟨_, _, rfl, (by (first | (exact field_one (fb_of rfl) rfl) | (exact field_agg (fa_of rfl) rfl))), ?_⟩))
              try simp only [Act.put, List.setIfInBounds_toArray, List.set_cons_succ, List.set_cons_zero]
              refine wp_region_tail 30 (by decide) (fun c vals => ⟨#[c 0, c 1, c 2, c 3, c 4, c 5, c 6, c 7, c 8, c 9, c 10, (Value.pointer (some ⟨g11, 0, none⟩) : Value), c 12, (W32 (Sha.one R (gw Sha.ks t) (gw W t)) : Value), vals 29, c 15, c 16, c 17, c 18, c 19, c 20, c 21, c 22, c 23, c 24, c 25, c 26, c 27, c 28, c 29, c 30, c 31, c 32, c 33, c 34, c 35, c 36, c 37, c 38, c 39, c 40, c 41, c 42, c 43, c 44, c 45, c 46, c 47, c 48, c 49, c 50, c 51, c 52, c 53, c 54, c 55, c 56, c 57, c 58, c 59, c 60, c 61, c 62, c 63, c 64, c 65, c 66, c 67, c 68, c 69, c 70, c 71, c 72, c 73, c 74, c 75, c 76, c 77, c 78, c 79, c 80, c 81, c 82, c 83, c 84, c 85, c 86, c 87, c 88, c 89, c 90, c 91, c 92, c 93, c 94, c 95, c 96, c 97, c 98, c 99, c 100, c 101, c 102, c 103, c 104, c 105, c 106, c 107, c 108, c 109, c 110, c 111, c 112, c 113, c 114, c 115, c 116, c 117, c 118, c 119, c 120, c 121, c 122, c 123, c 124, c 125, c 126, c 127, vals 0, vals 1, vals 2, vals 3, vals 4, vals 5, vals 6, vals 7, vals 8, vals 9, vals 10, vals 11, vals 12, vals 13, vals 14, vals 15, vals 16, vals 17, vals 18, vals 19, vals 20, vals 21, vals 22, vals 23, vals 24, vals 25, vals 26, vals 27, vals 28, c 157, c 158, c 159, c 160, c 161, c 162, c 163, c 164, c 165, c 166, c 167, c 168, c 169, c 170, c 171, c 172, c 173, c 174, c 175, c 176, c 177, c 178, c 179, c 180, c 181, c 182, c 183, c 184, c 185, c 186, c 187, c 188, c 189, c 190, c 191, c 192, c 193, c 194], []⟩) (fun t => [_, _, _, _, _, _, _, _, _, _, _, undef, _, undef, undef, _, _, _, _, _, _, _, _, _, _, _, _, _, _, _, _, _, _, _, _, _, _, _, _, _, _, _, _, _, _, _, _, _, _, _, _, _, _, _, _, _, _, _, _, _, _, _, _, _, _, _, _, _, _, _, _, _, _, _, _, _, _, _, _, _, _, _, _, _, _, _, _, _, _, _, _, _, _, _, _, _, _, _, _, _, _, _, _, _, _, _, _, _, _, _, _, _, _, _, _, _, _, _, _, _, _, _, _, _, _, _, _, _, undef, undef, undef, undef, undef, undef, undef, undef, undef, undef, undef, undef, undef, undef, undef, undef, undef, undef, undef, undef, undef, undef, undef, undef, undef, undef, undef, undef, undef, _, _, _, _, _, _, _, _, _, _, _, _, _, _, _, _, _, _, _, _, _, _, _, _, _, _, _, _, _, _, _, _, _, _, _, _, _, _].getD t undef) (fun i => [_, _, _, _, _, _, _, _, _, _, _, _, _, _, _, _, _, _, _, _, _, _, _, _, _, _, _, _, _, _].getD i undef) (by kernel_rfl)
                [[], [0], [0, 1], [], [3], [0, 1, 2, 3, 4], [0, 1, 2, 3, 4, 5], [], [7], [0, 1, 2, 3, 4, 5, 7, 8], [0, 1, 2, 3, 4, 5, 6, 7, 8, 9], [], [11], [], [13], [11, 12, 13, 14], [], [16], [], [18], [16, 17, 18, 19], [11, 12, 13, 14, 15, 16, 17, 18, 19, 20], [], [22], [], [24], [22, 23, 24, 25], [11, 12, 13, 14, 15, 16, 17, 18, 19, 20, 21, 22, 23, 24, 25, 26], [0, 1, 2, 3, 4, 5, 6, 7, 8, 9, 10, 11, 12, 13, 14, 15, 16, 17, 18, 19, 20, 21, 22, 23, 24, 25, 26, 27], [0, 1, 2, 3, 4, 5, 6, 7, 8, 9, 10, 11, 12, 13, 14, 15, 16, 17, 18, 19, 20, 21, 22, 23, 24, 25, 26, 27, 28]] (by kernel_rfl) (by kernel_rfl) (fun _ => True) trivial
                [fun x _ => x = (Value.pointer (some ⟨g11, 0, none⟩) : Value),
                 fun x _ => x = (W32 (gw R 0) : Value),
                 fun x _ => x = (W32 (Sha.turned (gw R 0) 2) : Value),
                 fun x _ => x = (Value.pointer (some ⟨g11, 0, none⟩) : Value),
                 fun x _ => x = (W32 (gw R 0) : Value),
                 fun x _ => x = (W32 (Sha.turned (gw R 0) 13) : Value),
                 fun x _ => x = (W32 ((Sha.turned (gw R 0) 2) ^^^ (Sha.turned (gw R 0) 13)) : Value),
                 fun x _ => x = (Value.pointer (some ⟨g11, 0, none⟩) : Value),
                 fun x _ => x = (W32 (gw R 0) : Value),
                 fun x _ => x = (W32 (Sha.turned (gw R 0) 22) : Value),
                 fun x _ => x = (W32 (((Sha.turned (gw R 0) 2) ^^^ (Sha.turned (gw R 0) 13)) ^^^ (Sha.turned (gw R 0) 22)) : Value),
                 fun x _ => x = (Value.pointer (some ⟨g11, 0, none⟩) : Value),
                 fun x _ => x = (W32 (gw R 0) : Value),
                 fun x _ => x = (Value.pointer (some ⟨g11, 1, none⟩) : Value),
                 fun x _ => x = (W32 (gw R 1) : Value),
                 fun x _ => x = (W32 ((gw R 0) &&& (gw R 1)) : Value),
                 fun x _ => x = (Value.pointer (some ⟨g11, 0, none⟩) : Value),
                 fun x _ => x = (W32 (gw R 0) : Value),
                 fun x _ => x = (Value.pointer (some ⟨g11, 2, none⟩) : Value),
                 fun x _ => x = (W32 (gw R 2) : Value),
                 fun x _ => x = (W32 ((gw R 0) &&& (gw R 2)) : Value),
                 fun x _ => x = (W32 (((gw R 0) &&& (gw R 1)) ^^^ ((gw R 0) &&& (gw R 2))) : Value),
                 fun x _ => x = (Value.pointer (some ⟨g11, 1, none⟩) : Value),
                 fun x _ => x = (W32 (gw R 1) : Value),
                 fun x _ => x = (Value.pointer (some ⟨g11, 2, none⟩) : Value),
                 fun x _ => x = (W32 (gw R 2) : Value),
                 fun x _ => x = (W32 ((gw R 1) &&& (gw R 2)) : Value),
                 fun x _ => x = (W32 ((((gw R 0) &&& (gw R 1)) ^^^ ((gw R 0) &&& (gw R 2))) ^^^ ((gw R 1) &&& (gw R 2))) : Value),
                 fun x _ => x = (W32 ((((Sha.turned (gw R 0) 2) ^^^ (Sha.turned (gw R 0) 13)) ^^^ (Sha.turned (gw R 0) 22)) + ((((gw R 0) &&& (gw R 1)) ^^^ ((gw R 0) &&& (gw R 2))) ^^^ ((gw R 1) &&& (gw R 2)))) : Value),
                 fun x _ => x = (W32 (Sha.two R) : Value)]
                ⟨fun _ _ _ h _ => h, fun _ _ _ h _ => h, fun _ _ _ h _ => h, fun _ _ _ h _ => h, fun _ _ _ h _ => h, fun _ _ _ h _ => h, fun _ _ _ h _ => h, fun _ _ _ h _ => h, fun _ _ _ h _ => h, fun _ _ _ h _ => h, fun _ _ _ h _ => h, fun _ _ _ h _ => h, fun _ _ _ h _ => h, fun _ _ _ h _ => h, fun _ _ _ h _ => h, fun _ _ _ h _ => h, fun _ _ _ h _ => h, fun _ _ _ h _ => h, fun _ _ _ h _ => h, fun _ _ _ h _ => h, fun _ _ _ h _ => h, fun _ _ _ h _ => h, fun _ _ _ h _ => h, fun _ _ _ h _ => h, fun _ _ _ h _ => h, fun _ _ _ h _ => h, fun _ _ _ h _ => h, fun _ _ _ h _ => h, fun _ _ _ h _ => h, fun _ _ _ h _ => h, trivial⟩ []
                ⟨?_, ?_, ?_, ?_, ?_, ?_, ?_, ?_, ?_, ?_, ?_, ?_, ?_, ?_, ?_, ?_, ?_, ?_, ?_, ?_, ?_, ?_, ?_, ?_, ?_, ?_, ?_, ?_, ?_, ?_, trivial⟩ ?_
              · refine showA_op 0 (by intro _ _ _; kernel_rfl) rfl rfl (fun c vals w hC hD => ?_)
                clear hD
                refine makes1 (x := .tmp 11) (X := Value.pointer (some ⟨g11, 0, none⟩)) (by kernel_rfl : _ = (Value.pointer (some ⟨g11, 0, none⟩) : Value)) (fun ρ rc rf q11 => ?_)
                refine makes_value (v := Value.pointer (some ⟨g11, 0, none⟩)) ?_ ⟨Adds.refl _, rfl⟩
                go_simp
                all_goals first | done | rfl | (rw [if_pos (by omega)]; refine congrArg (fun x => Result.ok (Next.value (Value.pointer (some ⟨_, x, none⟩))) _) ?_; omega) | (rw [wrapP_i64]; omega) | go_num | (simp; done) | (simp; omega) | (congr 1; first | rfl | (rw [wrapP_i64]; omega) | (congr 1; first | rfl | (simp; done) | (simp; omega) | (congr 2; omega) | go_num))
              · refine showA_op 1 (by intro _ _ _; kernel_rfl) rfl rfl (fun c vals w hC hD => ?_)
                have h0 : vals 0 = .pointer (some ⟨g11, 0, none⟩) := hD 0 rfl
                clear hD
                refine makes1 (x := .tmp 128) (X := Value.pointer (some ⟨g11, 0, none⟩)) ((by kernel_rfl : _ = vals 0).trans h0) (fun ρ rc rf q128 => ?_)
                clear h0
                exact makes_load ((hM.adds hC).loads_W32 (by (repeat (first | exact .head _ | apply List.Mem.tail)); done) (on_of rfl) (by first | omega | (simp only [Len] at *; omega) | (simp; omega))) rfl q128 ⟨Adds.refl _, rfl⟩
              · refine showA_op 2 (by intro _ _ _; kernel_rfl) rfl rfl (fun c vals w hC hD => ?_)
                have h1 : vals 1 = W32 (gw R 0) := hD 1 rfl
                clear hD
                refine makes1 (x := .tmp 129) (X := W32 (gw R 0)) ((by kernel_rfl : _ = vals 1).trans h1) (fun ρ rc rf q129 => ?_)
                clear h1
                refine makes_call (sha_turn_b _ (gw R 0) 2 (by decide) (by decide)) ?_ (by rintro e w' ⟨rfl, hb⟩; exact ⟨_, rfl, hb, rfl⟩)
                go_simp
              · refine showA_op 3 (by intro _ _ _; kernel_rfl) rfl rfl (fun c vals w hC hD => ?_)
                clear hD
                refine makes1 (x := .tmp 11) (X := Value.pointer (some ⟨g11, 0, none⟩)) (by kernel_rfl : _ = (Value.pointer (some ⟨g11, 0, none⟩) : Value)) (fun ρ rc rf q11 => ?_)
                refine makes_value (v := Value.pointer (some ⟨g11, 0, none⟩)) ?_ ⟨Adds.refl _, rfl⟩
                go_simp
                all_goals first | done | rfl | (rw [if_pos (by omega)]; refine congrArg (fun x => Result.ok (Next.value (Value.pointer (some ⟨_, x, none⟩))) _) ?_; omega) | (rw [wrapP_i64]; omega) | go_num | (simp; done) | (simp; omega) | (congr 1; first | rfl | (rw [wrapP_i64]; omega) | (congr 1; first | rfl | (simp; done) | (simp; omega) | (congr 2; omega) | go_num))
              · refine showA_op 4 (by intro _ _ _; kernel_rfl) rfl rfl (fun c vals w hC hD => ?_)
                have h3 : vals 3 = .pointer (some ⟨g11, 0, none⟩) := hD 3 rfl
                clear hD
                refine makes1 (x := .tmp 131) (X := Value.pointer (some ⟨g11, 0, none⟩)) ((by kernel_rfl : _ = vals 3).trans h3) (fun ρ rc rf q131 => ?_)
                clear h3
                exact makes_load ((hM.adds hC).loads_W32 (by (repeat (first | exact .head _ | apply List.Mem.tail)); done) (on_of rfl) (by first | omega | (simp only [Len] at *; omega) | (simp; omega))) rfl q131 ⟨Adds.refl _, rfl⟩
              · refine showA_op 5 (by intro _ _ _; kernel_rfl) rfl rfl (fun c vals w hC hD => ?_)
                have h4 : vals 4 = W32 (gw R 0) := hD 4 rfl
                clear hD
                refine makes1 (x := .tmp 132) (X := W32 (gw R 0)) ((by kernel_rfl : _ = vals 4).trans h4) (fun ρ rc rf q132 => ?_)
                clear h4
                refine makes_call (sha_turn_b _ (gw R 0) 13 (by decide) (by decide)) ?_ (by rintro e w' ⟨rfl, hb⟩; exact ⟨_, rfl, hb, rfl⟩)
                go_simp
              · refine showA_op 6 (by intro _ _ _; kernel_rfl) rfl rfl (fun c vals w hC hD => ?_)
                have h2 : vals 2 = W32 (Sha.turned (gw R 0) 2) := hD 2 rfl
                have h5 : vals 5 = W32 (Sha.turned (gw R 0) 13) := hD 5 rfl
                clear hD
                refine makes2 (x := .tmp 130) (X := W32 (Sha.turned (gw R 0) 2)) (y := .tmp 133) (Y := W32 (Sha.turned (gw R 0) 13)) ((by kernel_rfl : _ = vals 2).trans h2) ((by kernel_rfl : _ = vals 5).trans h5) (fun ρ rc rf q130 q133 => ?_)
                clear h2 h5
                refine makes_value (v := W32 ((Sha.turned (gw R 0) 2) ^^^ (Sha.turned (gw R 0) 13))) ?_ ⟨Adds.refl _, rfl⟩
                go_simp
                all_goals first | done | rfl | (rw [if_pos (by omega)]; refine congrArg (fun x => Result.ok (Next.value (Value.pointer (some ⟨_, x, none⟩))) _) ?_; omega) | (rw [wrapP_i64]; omega) | go_num | (simp; done) | (simp; omega) | (congr 1; first | rfl | (rw [wrapP_i64]; omega) | (congr 1; first | rfl | (simp; done) | (simp; omega) | (congr 2; omega) | go_num))
              · refine showA_op 7 (by intro _ _ _; kernel_rfl) rfl rfl (fun c vals w hC hD => ?_)
                clear hD
                refine makes1 (x := .tmp 11) (X := Value.pointer (some ⟨g11, 0, none⟩)) (by kernel_rfl : _ = (Value.pointer (some ⟨g11, 0, none⟩) : Value)) (fun ρ rc rf q11 => ?_)
                refine makes_value (v := Value.pointer (some ⟨g11, 0, none⟩)) ?_ ⟨Adds.refl _, rfl⟩
                go_simp
                all_goals first | done | rfl | (rw [if_pos (by omega)]; refine congrArg (fun x => Result.ok (Next.value (Value.pointer (some ⟨_, x, none⟩))) _) ?_; omega) | (rw [wrapP_i64]; omega) | go_num | (simp; done) | (simp; omega) | (congr 1; first | rfl | (rw [wrapP_i64]; omega) | (congr 1; first | rfl | (simp; done) | (simp; omega) | (congr 2; omega) | go_num))
              · refine showA_op 8 (by intro _ _ _; kernel_rfl) rfl rfl (fun c vals w hC hD => ?_)
                have h7 : vals 7 = .pointer (some ⟨g11, 0, none⟩) := hD 7 rfl
                clear hD
                refine makes1 (x := .tmp 135) (X := Value.pointer (some ⟨g11, 0, none⟩)) ((by kernel_rfl : _ = vals 7).trans h7) (fun ρ rc rf q135 => ?_)
                clear h7
                exact makes_load ((hM.adds hC).loads_W32 (by (repeat (first | exact .head _ | apply List.Mem.tail)); done) (on_of rfl) (by first | omega | (simp only [Len] at *; omega) | (simp; omega))) rfl q135 ⟨Adds.refl _, rfl⟩
              · refine showA_op 9 (by intro _ _ _; kernel_rfl) rfl rfl (fun c vals w hC hD => ?_)
                have h8 : vals 8 = W32 (gw R 0) := hD 8 rfl
                clear hD
                refine makes1 (x := .tmp 136) (X := W32 (gw R 0)) ((by kernel_rfl : _ = vals 8).trans h8) (fun ρ rc rf q136 => ?_)
                clear h8
                refine makes_call (sha_turn_b _ (gw R 0) 22 (by decide) (by decide)) ?_ (by rintro e w' ⟨rfl, hb⟩; exact ⟨_, rfl, hb, rfl⟩)
                go_simp
              · refine showA_op 10 (by intro _ _ _; kernel_rfl) rfl rfl (fun c vals w hC hD => ?_)
                have h6 : vals 6 = W32 ((Sha.turned (gw R 0) 2) ^^^ (Sha.turned (gw R 0) 13)) := hD 6 rfl
                have h9 : vals 9 = W32 (Sha.turned (gw R 0) 22) := hD 9 rfl
                clear hD
                refine makes2 (x := .tmp 134) (X := W32 ((Sha.turned (gw R 0) 2) ^^^ (Sha.turned (gw R 0) 13))) (y := .tmp 137) (Y := W32 (Sha.turned (gw R 0) 22)) ((by kernel_rfl : _ = vals 6).trans h6) ((by kernel_rfl : _ = vals 9).trans h9) (fun ρ rc rf q134 q137 => ?_)
                clear h6 h9
                refine makes_value (v := W32 (((Sha.turned (gw R 0) 2) ^^^ (Sha.turned (gw R 0) 13)) ^^^ (Sha.turned (gw R 0) 22))) ?_ ⟨Adds.refl _, rfl⟩
                go_simp
                all_goals first | done | rfl | (rw [if_pos (by omega)]; refine congrArg (fun x => Result.ok (Next.value (Value.pointer (some ⟨_, x, none⟩))) _) ?_; omega) | (rw [wrapP_i64]; omega) | go_num | (simp; done) | (simp; omega) | (congr 1; first | rfl | (rw [wrapP_i64]; omega) | (congr 1; first | rfl | (simp; done) | (simp; omega) | (congr 2; omega) | go_num))
              · refine showA_op 11 (by intro _ _ _; kernel_rfl) rfl rfl (fun c vals w hC hD => ?_)
                clear hD
                refine makes1 (x := .tmp 11) (X := Value.pointer (some ⟨g11, 0, none⟩)) (by kernel_rfl : _ = (Value.pointer (some ⟨g11, 0, none⟩) : Value)) (fun ρ rc rf q11 => ?_)
                refine makes_value (v := Value.pointer (some ⟨g11, 0, none⟩)) ?_ ⟨Adds.refl _, rfl⟩
                go_simp
                all_goals first | done | rfl | (rw [if_pos (by omega)]; refine congrArg (fun x => Result.ok (Next.value (Value.pointer (some ⟨_, x, none⟩))) _) ?_; omega) | (rw [wrapP_i64]; omega) | go_num | (simp; done) | (simp; omega) | (congr 1; first | rfl | (rw [wrapP_i64]; omega) | (congr 1; first | rfl | (simp; done) | (simp; omega) | (congr 2; omega) | go_num))
              · refine showA_op 12 (by intro _ _ _; kernel_rfl) rfl rfl (fun c vals w hC hD => ?_)
                have h11 : vals 11 = .pointer (some ⟨g11, 0, none⟩) := hD 11 rfl
                clear hD
                refine makes1 (x := .tmp 139) (X := Value.pointer (some ⟨g11, 0, none⟩)) ((by kernel_rfl : _ = vals 11).trans h11) (fun ρ rc rf q139 => ?_)
                clear h11
                exact makes_load ((hM.adds hC).loads_W32 (by (repeat (first | exact .head _ | apply List.Mem.tail)); done) (on_of rfl) (by first | omega | (simp only [Len] at *; omega) | (simp; omega))) rfl q139 ⟨Adds.refl _, rfl⟩
              · refine showA_op 13 (by intro _ _ _; kernel_rfl) rfl rfl (fun c vals w hC hD => ?_)
                clear hD
                refine makes1 (x := .tmp 11) (X := Value.pointer (some ⟨g11, 0, none⟩)) (by kernel_rfl : _ = (Value.pointer (some ⟨g11, 0, none⟩) : Value)) (fun ρ rc rf q11 => ?_)
                refine makes_value (v := Value.pointer (some ⟨g11, 1, none⟩)) ?_ ⟨Adds.refl _, rfl⟩
                go_simp
                all_goals first | done | rfl | (rw [if_pos (by omega)]; refine congrArg (fun x => Result.ok (Next.value (Value.pointer (some ⟨_, x, none⟩))) _) ?_; omega) | (rw [wrapP_i64]; omega) | go_num | (simp; done) | (simp; omega) | (congr 1; first | rfl | (rw [wrapP_i64]; omega) | (congr 1; first | rfl | (simp; done) | (simp; omega) | (congr 2; omega) | go_num))
              · refine showA_op 14 (by intro _ _ _; kernel_rfl) rfl rfl (fun c vals w hC hD => ?_)
                have h13 : vals 13 = .pointer (some ⟨g11, 1, none⟩) := hD 13 rfl
                clear hD
                refine makes1 (x := .tmp 141) (X := Value.pointer (some ⟨g11, 1, none⟩)) ((by kernel_rfl : _ = vals 13).trans h13) (fun ρ rc rf q141 => ?_)
                clear h13
                exact makes_load ((hM.adds hC).loads_W32 (by (repeat (first | exact .head _ | apply List.Mem.tail)); done) (on_of rfl) (by first | omega | (simp only [Len] at *; omega) | (simp; omega))) rfl q141 ⟨Adds.refl _, rfl⟩
              · refine showA_op 15 (by intro _ _ _; kernel_rfl) rfl rfl (fun c vals w hC hD => ?_)
                have h12 : vals 12 = W32 (gw R 0) := hD 12 rfl
                have h14 : vals 14 = W32 (gw R 1) := hD 14 rfl
                clear hD
                refine makes2 (x := .tmp 140) (X := W32 (gw R 0)) (y := .tmp 142) (Y := W32 (gw R 1)) ((by kernel_rfl : _ = vals 12).trans h12) ((by kernel_rfl : _ = vals 14).trans h14) (fun ρ rc rf q140 q142 => ?_)
                clear h12 h14
                refine makes_value (v := W32 ((gw R 0) &&& (gw R 1))) ?_ ⟨Adds.refl _, rfl⟩
                go_simp
                all_goals first | done | rfl | (rw [if_pos (by omega)]; refine congrArg (fun x => Result.ok (Next.value (Value.pointer (some ⟨_, x, none⟩))) _) ?_; omega) | (rw [wrapP_i64]; omega) | go_num | (simp; done) | (simp; omega) | (congr 1; first | rfl | (rw [wrapP_i64]; omega) | (congr 1; first | rfl | (simp; done) | (simp; omega) | (congr 2; omega) | go_num))
              · refine showA_op 16 (by intro _ _ _; kernel_rfl) rfl rfl (fun c vals w hC hD => ?_)
                clear hD
                refine makes1 (x := .tmp 11) (X := Value.pointer (some ⟨g11, 0, none⟩)) (by kernel_rfl : _ = (Value.pointer (some ⟨g11, 0, none⟩) : Value)) (fun ρ rc rf q11 => ?_)
                refine makes_value (v := Value.pointer (some ⟨g11, 0, none⟩)) ?_ ⟨Adds.refl _, rfl⟩
                go_simp
                all_goals first | done | rfl | (rw [if_pos (by omega)]; refine congrArg (fun x => Result.ok (Next.value (Value.pointer (some ⟨_, x, none⟩))) _) ?_; omega) | (rw [wrapP_i64]; omega) | go_num | (simp; done) | (simp; omega) | (congr 1; first | rfl | (rw [wrapP_i64]; omega) | (congr 1; first | rfl | (simp; done) | (simp; omega) | (congr 2; omega) | go_num))
              · refine showA_op 17 (by intro _ _ _; kernel_rfl) rfl rfl (fun c vals w hC hD => ?_)
                have h16 : vals 16 = .pointer (some ⟨g11, 0, none⟩) := hD 16 rfl
                clear hD
                refine makes1 (x := .tmp 144) (X := Value.pointer (some ⟨g11, 0, none⟩)) ((by kernel_rfl : _ = vals 16).trans h16) (fun ρ rc rf q144 => ?_)
                clear h16
                exact makes_load ((hM.adds hC).loads_W32 (by (repeat (first | exact .head _ | apply List.Mem.tail)); done) (on_of rfl) (by first | omega | (simp only [Len] at *; omega) | (simp; omega))) rfl q144 ⟨Adds.refl _, rfl⟩
              · refine showA_op 18 (by intro _ _ _; kernel_rfl) rfl rfl (fun c vals w hC hD => ?_)
                clear hD
                refine makes1 (x := .tmp 11) (X := Value.pointer (some ⟨g11, 0, none⟩)) (by kernel_rfl : _ = (Value.pointer (some ⟨g11, 0, none⟩) : Value)) (fun ρ rc rf q11 => ?_)
                refine makes_value (v := Value.pointer (some ⟨g11, 2, none⟩)) ?_ ⟨Adds.refl _, rfl⟩
                go_simp
                all_goals first | done | rfl | (rw [if_pos (by omega)]; refine congrArg (fun x => Result.ok (Next.value (Value.pointer (some ⟨_, x, none⟩))) _) ?_; omega) | (rw [wrapP_i64]; omega) | go_num | (simp; done) | (simp; omega) | (congr 1; first | rfl | (rw [wrapP_i64]; omega) | (congr 1; first | rfl | (simp; done) | (simp; omega) | (congr 2; omega) | go_num))
              · refine showA_op 19 (by intro _ _ _; kernel_rfl) rfl rfl (fun c vals w hC hD => ?_)
                have h18 : vals 18 = .pointer (some ⟨g11, 2, none⟩) := hD 18 rfl
                clear hD
                refine makes1 (x := .tmp 146) (X := Value.pointer (some ⟨g11, 2, none⟩)) ((by kernel_rfl : _ = vals 18).trans h18) (fun ρ rc rf q146 => ?_)
                clear h18
                exact makes_load ((hM.adds hC).loads_W32 (by (repeat (first | exact .head _ | apply List.Mem.tail)); done) (on_of rfl) (by first | omega | (simp only [Len] at *; omega) | (simp; omega))) rfl q146 ⟨Adds.refl _, rfl⟩
              · refine showA_op 20 (by intro _ _ _; kernel_rfl) rfl rfl (fun c vals w hC hD => ?_)
                have h17 : vals 17 = W32 (gw R 0) := hD 17 rfl
                have h19 : vals 19 = W32 (gw R 2) := hD 19 rfl
                clear hD
                refine makes2 (x := .tmp 145) (X := W32 (gw R 0)) (y := .tmp 147) (Y := W32 (gw R 2)) ((by kernel_rfl : _ = vals 17).trans h17) ((by kernel_rfl : _ = vals 19).trans h19) (fun ρ rc rf q145 q147 => ?_)
                clear h17 h19
                refine makes_value (v := W32 ((gw R 0) &&& (gw R 2))) ?_ ⟨Adds.refl _, rfl⟩
                go_simp
                all_goals first | done | rfl | (rw [if_pos (by omega)]; refine congrArg (fun x => Result.ok (Next.value (Value.pointer (some ⟨_, x, none⟩))) _) ?_; omega) | (rw [wrapP_i64]; omega) | go_num | (simp; done) | (simp; omega) | (congr 1; first | rfl | (rw [wrapP_i64]; omega) | (congr 1; first | rfl | (simp; done) | (simp; omega) | (congr 2; omega) | go_num))
              · refine showA_op 21 (by intro _ _ _; kernel_rfl) rfl rfl (fun c vals w hC hD => ?_)
                have h15 : vals 15 = W32 ((gw R 0) &&& (gw R 1)) := hD 15 rfl
                have h20 : vals 20 = W32 ((gw R 0) &&& (gw R 2)) := hD 20 rfl
                clear hD
                refine makes2 (x := .tmp 143) (X := W32 ((gw R 0) &&& (gw R 1))) (y := .tmp 148) (Y := W32 ((gw R 0) &&& (gw R 2))) ((by kernel_rfl : _ = vals 15).trans h15) ((by kernel_rfl : _ = vals 20).trans h20) (fun ρ rc rf q143 q148 => ?_)
                clear h15 h20
                refine makes_value (v := W32 (((gw R 0) &&& (gw R 1)) ^^^ ((gw R 0) &&& (gw R 2)))) ?_ ⟨Adds.refl _, rfl⟩
                go_simp
                all_goals first | done | rfl | (rw [if_pos (by omega)]; refine congrArg (fun x => Result.ok (Next.value (Value.pointer (some ⟨_, x, none⟩))) _) ?_; omega) | (rw [wrapP_i64]; omega) | go_num | (simp; done) | (simp; omega) | (congr 1; first | rfl | (rw [wrapP_i64]; omega) | (congr 1; first | rfl | (simp; done) | (simp; omega) | (congr 2; omega) | go_num))
              · refine showA_op 22 (by intro _ _ _; kernel_rfl) rfl rfl (fun c vals w hC hD => ?_)
                clear hD
                refine makes1 (x := .tmp 11) (X := Value.pointer (some ⟨g11, 0, none⟩)) (by kernel_rfl : _ = (Value.pointer (some ⟨g11, 0, none⟩) : Value)) (fun ρ rc rf q11 => ?_)
                refine makes_value (v := Value.pointer (some ⟨g11, 1, none⟩)) ?_ ⟨Adds.refl _, rfl⟩
                go_simp
                all_goals first | done | rfl | (rw [if_pos (by omega)]; refine congrArg (fun x => Result.ok (Next.value (Value.pointer (some ⟨_, x, none⟩))) _) ?_; omega) | (rw [wrapP_i64]; omega) | go_num | (simp; done) | (simp; omega) | (congr 1; first | rfl | (rw [wrapP_i64]; omega) | (congr 1; first | rfl | (simp; done) | (simp; omega) | (congr 2; omega) | go_num))
              · refine showA_op 23 (by intro _ _ _; kernel_rfl) rfl rfl (fun c vals w hC hD => ?_)
                have h22 : vals 22 = .pointer (some ⟨g11, 1, none⟩) := hD 22 rfl
                clear hD
                refine makes1 (x := .tmp 150) (X := Value.pointer (some ⟨g11, 1, none⟩)) ((by kernel_rfl : _ = vals 22).trans h22) (fun ρ rc rf q150 => ?_)
                clear h22
                exact makes_load ((hM.adds hC).loads_W32 (by (repeat (first | exact .head _ | apply List.Mem.tail)); done) (on_of rfl) (by first | omega | (simp only [Len] at *; omega) | (simp; omega))) rfl q150 ⟨Adds.refl _, rfl⟩
              · refine showA_op 24 (by intro _ _ _; kernel_rfl) rfl rfl (fun c vals w hC hD => ?_)
                clear hD
                refine makes1 (x := .tmp 11) (X := Value.pointer (some ⟨g11, 0, none⟩)) (by kernel_rfl : _ = (Value.pointer (some ⟨g11, 0, none⟩) : Value)) (fun ρ rc rf q11 => ?_)
                refine makes_value (v := Value.pointer (some ⟨g11, 2, none⟩)) ?_ ⟨Adds.refl _, rfl⟩
                go_simp
                all_goals first | done | rfl | (rw [if_pos (by omega)]; refine congrArg (fun x => Result.ok (Next.value (Value.pointer (some ⟨_, x, none⟩))) _) ?_; omega) | (rw [wrapP_i64]; omega) | go_num | (simp; done) | (simp; omega) | (congr 1; first | rfl | (rw [wrapP_i64]; omega) | (congr 1; first | rfl | (simp; done) | (simp; omega) | (congr 2; omega) | go_num))
              · refine showA_op 25 (by intro _ _ _; kernel_rfl) rfl rfl (fun c vals w hC hD => ?_)
                have h24 : vals 24 = .pointer (some ⟨g11, 2, none⟩) := hD 24 rfl
                clear hD
                refine makes1 (x := .tmp 152) (X := Value.pointer (some ⟨g11, 2, none⟩)) ((by kernel_rfl : _ = vals 24).trans h24) (fun ρ rc rf q152 => ?_)
                clear h24
                exact makes_load ((hM.adds hC).loads_W32 (by (repeat (first | exact .head _ | apply List.Mem.tail)); done) (on_of rfl) (by first | omega | (simp only [Len] at *; omega) | (simp; omega))) rfl q152 ⟨Adds.refl _, rfl⟩
              · refine showA_op 26 (by intro _ _ _; kernel_rfl) rfl rfl (fun c vals w hC hD => ?_)
                have h23 : vals 23 = W32 (gw R 1) := hD 23 rfl
                have h25 : vals 25 = W32 (gw R 2) := hD 25 rfl
                clear hD
                refine makes2 (x := .tmp 151) (X := W32 (gw R 1)) (y := .tmp 153) (Y := W32 (gw R 2)) ((by kernel_rfl : _ = vals 23).trans h23) ((by kernel_rfl : _ = vals 25).trans h25) (fun ρ rc rf q151 q153 => ?_)
                clear h23 h25
                refine makes_value (v := W32 ((gw R 1) &&& (gw R 2))) ?_ ⟨Adds.refl _, rfl⟩
                go_simp
                all_goals first | done | rfl | (rw [if_pos (by omega)]; refine congrArg (fun x => Result.ok (Next.value (Value.pointer (some ⟨_, x, none⟩))) _) ?_; omega) | (rw [wrapP_i64]; omega) | go_num | (simp; done) | (simp; omega) | (congr 1; first | rfl | (rw [wrapP_i64]; omega) | (congr 1; first | rfl | (simp; done) | (simp; omega) | (congr 2; omega) | go_num))
              · refine showA_op 27 (by intro _ _ _; kernel_rfl) rfl rfl (fun c vals w hC hD => ?_)
                have h21 : vals 21 = W32 (((gw R 0) &&& (gw R 1)) ^^^ ((gw R 0) &&& (gw R 2))) := hD 21 rfl
                have h26 : vals 26 = W32 ((gw R 1) &&& (gw R 2)) := hD 26 rfl
                clear hD
                refine makes2 (x := .tmp 149) (X := W32 (((gw R 0) &&& (gw R 1)) ^^^ ((gw R 0) &&& (gw R 2)))) (y := .tmp 154) (Y := W32 ((gw R 1) &&& (gw R 2))) ((by kernel_rfl : _ = vals 21).trans h21) ((by kernel_rfl : _ = vals 26).trans h26) (fun ρ rc rf q149 q154 => ?_)
                clear h21 h26
                refine makes_value (v := W32 ((((gw R 0) &&& (gw R 1)) ^^^ ((gw R 0) &&& (gw R 2))) ^^^ ((gw R 1) &&& (gw R 2)))) ?_ ⟨Adds.refl _, rfl⟩
                go_simp
                all_goals first | done | rfl | (rw [if_pos (by omega)]; refine congrArg (fun x => Result.ok (Next.value (Value.pointer (some ⟨_, x, none⟩))) _) ?_; omega) | (rw [wrapP_i64]; omega) | go_num | (simp; done) | (simp; omega) | (congr 1; first | rfl | (rw [wrapP_i64]; omega) | (congr 1; first | rfl | (simp; done) | (simp; omega) | (congr 2; omega) | go_num))
              · refine showA_op 28 (by intro _ _ _; kernel_rfl) rfl rfl (fun c vals w hC hD => ?_)
                have h10 : vals 10 = W32 (((Sha.turned (gw R 0) 2) ^^^ (Sha.turned (gw R 0) 13)) ^^^ (Sha.turned (gw R 0) 22)) := hD 10 rfl
                have h27 : vals 27 = W32 ((((gw R 0) &&& (gw R 1)) ^^^ ((gw R 0) &&& (gw R 2))) ^^^ ((gw R 1) &&& (gw R 2))) := hD 27 rfl
                clear hD
                refine makes2 (x := .tmp 138) (X := W32 (((Sha.turned (gw R 0) 2) ^^^ (Sha.turned (gw R 0) 13)) ^^^ (Sha.turned (gw R 0) 22))) (y := .tmp 155) (Y := W32 ((((gw R 0) &&& (gw R 1)) ^^^ ((gw R 0) &&& (gw R 2))) ^^^ ((gw R 1) &&& (gw R 2)))) ((by kernel_rfl : _ = vals 10).trans h10) ((by kernel_rfl : _ = vals 27).trans h27) (fun ρ rc rf q138 q155 => ?_)
                clear h10 h27
                refine makes_value (v := W32 ((((Sha.turned (gw R 0) 2) ^^^ (Sha.turned (gw R 0) 13)) ^^^ (Sha.turned (gw R 0) 22)) + ((((gw R 0) &&& (gw R 1)) ^^^ ((gw R 0) &&& (gw R 2))) ^^^ ((gw R 1) &&& (gw R 2))))) ?_ ⟨Adds.refl _, rfl⟩
                go_simp
                all_goals first | done | rfl | (rw [if_pos (by omega)]; refine congrArg (fun x => Result.ok (Next.value (Value.pointer (some ⟨_, x, none⟩))) _) ?_; omega) | (rw [wrapP_i64]; omega) | go_num | (simp; done) | (simp; omega) | (congr 1; first | rfl | (rw [wrapP_i64]; omega) | (congr 1; first | rfl | (simp; done) | (simp; omega) | (congr 2; omega) | go_num))
              · refine showA_op 29 (by intro _ _ _; kernel_rfl) rfl rfl (fun c vals w hC hD => ?_)
                have h28 : vals 28 = W32 ((((Sha.turned (gw R 0) 2) ^^^ (Sha.turned (gw R 0) 13)) ^^^ (Sha.turned (gw R 0) 22)) + ((((gw R 0) &&& (gw R 1)) ^^^ ((gw R 0) &&& (gw R 2))) ^^^ ((gw R 1) &&& (gw R 2)))) := hD 28 rfl
                clear hD
                refine makes1 (x := .tmp 156) (X := W32 ((((Sha.turned (gw R 0) 2) ^^^ (Sha.turned (gw R 0) 13)) ^^^ (Sha.turned (gw R 0) 22)) + ((((gw R 0) &&& (gw R 1)) ^^^ ((gw R 0) &&& (gw R 2))) ^^^ ((gw R 1) &&& (gw R 2))))) ((by kernel_rfl : _ = vals 28).trans h28) (fun ρ rc rf q156 => ?_)
                clear h28
                exact makes_move (.inr rfl) q156 ⟨Adds.refl _, rfl⟩
              intro vals w' hC hΦ hne
              have h29 : vals 29 = W32 (Sha.two R) := hΦ 29 (by decide)
              clear hΦ hne
              simp only [List.getD_eq_getElem?_getD, List.getElem?_cons_zero, List.getElem?_cons_succ, Option.getD_some, List.drop_succ_cons, List.drop_zero]
              simp only [h29]
              clear h29
              try simp only [tuple_undef]
              replace hM := hM.adds hC
              clear hC
              have HS' : Hid ([W32 (Sha.one R (gw Sha.ks t) (gw W t) + Sha.two R), W32 (gw R 0), W32 (gw R 1), W32 (gw R 2), W32 (gw R 3 + Sha.one R (gw Sha.ks t) (gw W t)), W32 (gw R 4), W32 (gw R 5), W32 (gw R 6)] = (Sha.rnd s W (t + 1)).map W32) := Lib.hid (by rw [HS.out]; rfl)
              go_wp2_with (first | go_skip | ((first | (with_reducible refine gL_load ?_) | ((with_reducible refine gG_load ?_ ?_); (exact wanted_of rfl rfl rfl rfl rfl))); refine ⟨_, _, rfl, (by (first | (exact loads_dig_s hM (by (repeat (first | exact .head _ | apply List.Mem.tail)); done) hs) | (exact loads_dig_n hM (by (repeat (first | exact .head _ | apply List.Mem.tail)); done) hs hb) | (assumption) | (exact hM.loads_B8 (by (repeat (first | exact .head _ | apply List.Mem.tail)); done) (on_of rfl) (by first | omega | (simp only [Len] at *; omega) | (simp; omega))) | (exact hM.loads_all (by (repeat (first | exact .head _ | apply List.Mem.tail)); done) (ag_of rfl) (by first | assumption | exact Len.map (by assumption) _ | rfl | exact Len.map (by rfl) _ | exact Len.of (by simp; done) | exact W32_len (Sha.laying_len _ _ (by omega)) | exact Len.map (W32_len (Sha.laying_len _ _ (by omega))) _ | exact dig_len (by assumption) (by assumption) | exact Len.map (dig_len (by assumption) (by assumption)) _)) | (exact hM.loads_one (by (repeat (first | exact .head _ | apply List.Mem.tail)); done) (on_of rfl) rfl) | (exact hM.loads_W32 (by (repeat (first | exact .head _ | apply List.Mem.tail)); done) (on_of rfl) (by first | omega | (simp only [Len] at *; omega) | (simp; omega))) | (exact loads_cell (by assumption) (on_of rfl)))), ?_⟩) | ((with_reducible refine gL_store hM ?_); refine ⟨_, _, _, rfl, rfl, (by (first | (exact stores_dig_s hM (by (repeat (first | exact .here _ _ _ | apply Has.there)); done) (by assumption) (by assumption)) | (exact hM.stores_B8 (by first | exact (rfl : B8 _ = B8 _) | exact lit8 _ (by decide)) (by (repeat (first | exact .here _ _ _ | apply Has.there)); done) (on_of rfl) (by first | omega | (simp only [Len] at *; omega) | (simp; omega))) | (exact hM.stores_all (by (repeat (first | exact .here _ _ _ | apply Has.there)); done) (ag_of rfl) (by first | assumption | exact Len.map (by assumption) _ | rfl | exact Len.map (by rfl) _ | exact Len.of (by simp; done) | exact W32_len (Sha.laying_len _ _ (by omega)) | exact Len.map (W32_len (Sha.laying_len _ _ (by omega))) _ | exact dig_len (by assumption) (by assumption) | exact Len.map (dig_len (by assumption) (by assumption)) _) (by first | assumption | exact Len.map (by assumption) _ | rfl | exact Len.map (by rfl) _ | exact Len.of (by simp; done) | exact W32_len (Sha.laying_len _ _ (by omega)) | exact Len.map (W32_len (Sha.laying_len _ _ (by omega))) _ | exact dig_len (by assumption) (by assumption) | exact Len.map (dig_len (by assumption) (by assumption)) _) (by first | exact B8_one | exact W32_one | exact one_of_all rfl)) | (exact hM.stores_W32 rfl (by (repeat (first | exact .here _ _ _ | apply Has.there)); done) (on_of rfl) (by first | omega | (simp only [Len] at *; omega) | (simp; omega))) | (exact hM.stores_one (by (repeat (first | exact .here _ _ _ | apply Has.there)); done) (on_of rfl) (by first | omega | (simp only [Len] at *; omega) | (simp; omega)) rfl rfl))), ?_⟩; intro _ hM2; clear hM; have hM := hM2; clear hM2) | ((with_reducible refine gL_alloc hM ?_); refine ⟨_, _, (zr_of rfl), ?_⟩; intro _ _ hM2; clear hM; have hM := hM2; clear hM2) | ((with_reducible refine gL_box hM ?_); refine ⟨_, _, _, rfl, rfl, (by first | assumption | exact Len.map (by assumption) _ | rfl | exact Len.map (by rfl) _ | exact Len.of (by simp; done) | exact W32_len (Sha.laying_len _ _ (by omega)) | exact Len.map (W32_len (Sha.laying_len _ _ (by omega))) _ | exact dig_len (by assumption) (by assumption) | exact Len.map (dig_len (by assumption) (by assumption)) _), ?_⟩; intro _ _ hM2; clear hM; have hM := hM2; clear hM2) | ((with_reducible refine gL_build0 ?_); refine ⟨_, _, _, _, _, _, (zr_of rfl), (ua_of rfl), (ag_of rfl), (el_of rfl), ?_⟩) | ((with_reducible refine gL_buildBytes hM ?_); refine ⟨_, _, (us_of rfl), (el_of rfl), (by decide), (by decide), rfl, (by (repeat (first | exact EvB.nil | apply EvB.cons rfl (by first | exact (rfl : B8 _ = B8 _) | exact lit8 _ (by decide)))); done), ?_⟩; intro _ _ hM2; clear hM; have hM := hM2; clear hM2) | ((with_reducible refine gL_append_B hM ?_); refine ⟨_, _, _, _, _, _, _, _, _, _, rfl, rfl, (by first | exact (rfl : Value.slice (some ⟨_, 0, none⟩) _ _ = sl (some _) _ _) | exact (rfl : Value.slice none _ _ = sl none _ _) | rfl), (us_of rfl), (el_of rfl), (by first | exact hM.src (by (repeat (first | exact .head _ | apply List.Mem.tail)); done) | exact (hM.bytes0 (by assumption)).src), (fun _ _ => by (repeat (first | exact .here _ _ _ | apply Swap.there)); done), (by first | assumption | exact Len.map (by assumption) _ | rfl | exact Len.map (by rfl) _ | exact Len.of (by simp; done) | exact W32_len (Sha.laying_len _ _ (by omega)) | exact Len.map (W32_len (Sha.laying_len _ _ (by omega))) _ | exact dig_len (by assumption) (by assumption) | exact Len.map (dig_len (by assumption) (by assumption)) _), (by first | assumption | exact Len.map (by assumption) _ | rfl | exact Len.map (by rfl) _ | exact Len.of (by simp; done) | exact W32_len (Sha.laying_len _ _ (by omega)) | exact Len.map (W32_len (Sha.laying_len _ _ (by omega))) _ | exact dig_len (by assumption) (by assumption) | exact Len.map (dig_len (by assumption) (by assumption)) _), (by first | assumption | (simp [maxLen]; done) | omega | (simp [maxLen]; omega)), (by first | omega | (simp only [Len] at *; omega) | (simp; omega)), ?_⟩; intro _ _ _ hM2 _ _; clear hM; have hM := hM2; clear hM2) | ((first | (with_reducible refine gL_field ?_) | ((with_reducible refine gG_field ?_ ?_); (exact wanted_of rfl rfl rfl rfl rfl))); refine ⟨_, _, rfl, (by (first | (exact field_one (fb_of rfl) rfl) | (exact field_agg (fa_of rfl) rfl))), ?_⟩))
              rw [HS'.out] at hM
              go_roundw
              case rel => exact ⟨t + 1, by omega, by go_num, hM⟩
              case measure => simp [intOf]; omega
              --]
            · have : t = 64 := by omega
              subst this
              rw [show Value.int IntKind.i64 ((64 : Nat) : Int) = Value.int IntKind.i64 64 from rfl]
              generalize Sha.rnd s W 64 = R at *
              go_wp2_with (first | go_skip | ((first | (with_reducible refine gL_load ?_) | ((with_reducible refine gG_load ?_ ?_); (exact wanted_of rfl rfl rfl rfl rfl))); refine ⟨_, _, rfl, (by (first | (exact loads_dig_s hM (by (repeat (first | exact .head _ | apply List.Mem.tail)); done) hs) | (exact loads_dig_n hM (by (repeat (first | exact .head _ | apply List.Mem.tail)); done) hs hb) | (assumption) | (exact hM.loads_B8 (by (repeat (first | exact .head _ | apply List.Mem.tail)); done) (on_of rfl) (by first | omega | (simp only [Len] at *; omega) | (simp; omega))) | (exact hM.loads_all (by (repeat (first | exact .head _ | apply List.Mem.tail)); done) (ag_of rfl) (by first | assumption | exact Len.map (by assumption) _ | rfl | exact Len.map (by rfl) _ | exact Len.of (by simp; done) | exact W32_len (Sha.laying_len _ _ (by omega)) | exact Len.map (W32_len (Sha.laying_len _ _ (by omega))) _ | exact dig_len (by assumption) (by assumption) | exact Len.map (dig_len (by assumption) (by assumption)) _)) | (exact hM.loads_one (by (repeat (first | exact .head _ | apply List.Mem.tail)); done) (on_of rfl) rfl) | (exact hM.loads_W32 (by (repeat (first | exact .head _ | apply List.Mem.tail)); done) (on_of rfl) (by first | omega | (simp only [Len] at *; omega) | (simp; omega))) | (exact loads_cell (by assumption) (on_of rfl)))), ?_⟩) | ((with_reducible refine gL_store hM ?_); refine ⟨_, _, _, rfl, rfl, (by (first | (exact stores_dig_s hM (by (repeat (first | exact .here _ _ _ | apply Has.there)); done) (by assumption) (by assumption)) | (exact hM.stores_B8 (by first | exact (rfl : B8 _ = B8 _) | exact lit8 _ (by decide)) (by (repeat (first | exact .here _ _ _ | apply Has.there)); done) (on_of rfl) (by first | omega | (simp only [Len] at *; omega) | (simp; omega))) | (exact hM.stores_all (by (repeat (first | exact .here _ _ _ | apply Has.there)); done) (ag_of rfl) (by first | assumption | exact Len.map (by assumption) _ | rfl | exact Len.map (by rfl) _ | exact Len.of (by simp; done) | exact W32_len (Sha.laying_len _ _ (by omega)) | exact Len.map (W32_len (Sha.laying_len _ _ (by omega))) _ | exact dig_len (by assumption) (by assumption) | exact Len.map (dig_len (by assumption) (by assumption)) _) (by first | assumption | exact Len.map (by assumption) _ | rfl | exact Len.map (by rfl) _ | exact Len.of (by simp; done) | exact W32_len (Sha.laying_len _ _ (by omega)) | exact Len.map (W32_len (Sha.laying_len _ _ (by omega))) _ | exact dig_len (by assumption) (by assumption) | exact Len.map (dig_len (by assumption) (by assumption)) _) (by first | exact B8_one | exact W32_one | exact one_of_all rfl)) | (exact hM.stores_W32 rfl (by (repeat (first | exact .here _ _ _ | apply Has.there)); done) (on_of rfl) (by first | omega | (simp only [Len] at *; omega) | (simp; omega))) | (exact hM.stores_one (by (repeat (first | exact .here _ _ _ | apply Has.there)); done) (on_of rfl) (by first | omega | (simp only [Len] at *; omega) | (simp; omega)) rfl rfl))), ?_⟩; intro _ hM2; clear hM; have hM := hM2; clear hM2) | ((with_reducible refine gL_alloc hM ?_); refine ⟨_, _, (zr_of rfl), ?_⟩; intro _ _ hM2; clear hM; have hM := hM2; clear hM2) | ((with_reducible refine gL_box hM ?_); refine ⟨_, _, _, rfl, rfl, (by first | assumption | exact Len.map (by assumption) _ | rfl | exact Len.map (by rfl) _ | exact Len.of (by simp; done) | exact W32_len (Sha.laying_len _ _ (by omega)) | exact Len.map (W32_len (Sha.laying_len _ _ (by omega))) _ | exact dig_len (by assumption) (by assumption) | exact Len.map (dig_len (by assumption) (by assumption)) _), ?_⟩; intro _ _ hM2; clear hM; have hM := hM2; clear hM2) | ((with_reducible refine gL_build0 ?_); refine ⟨_, _, _, _, _, _, (zr_of rfl), (ua_of rfl), (ag_of rfl), (el_of rfl), ?_⟩) | ((with_reducible refine gL_buildBytes hM ?_); refine ⟨_, _, (us_of rfl), (el_of rfl), (by decide), (by decide), rfl, (by (repeat (first | exact EvB.nil | apply EvB.cons rfl (by first | exact (rfl : B8 _ = B8 _) | exact lit8 _ (by decide)))); done), ?_⟩; intro _ _ hM2; clear hM; have hM := hM2; clear hM2) | ((with_reducible refine gL_append_B hM ?_); refine ⟨_, _, _, _, _, _, _, _, _, _, rfl, rfl, (by first | exact (rfl : Value.slice (some ⟨_, 0, none⟩) _ _ = sl (some _) _ _) | exact (rfl : Value.slice none _ _ = sl none _ _) | rfl), (us_of rfl), (el_of rfl), (by first | exact hM.src (by (repeat (first | exact .head _ | apply List.Mem.tail)); done) | exact (hM.bytes0 (by assumption)).src), (fun _ _ => by (repeat (first | exact .here _ _ _ | apply Swap.there)); done), (by first | assumption | exact Len.map (by assumption) _ | rfl | exact Len.map (by rfl) _ | exact Len.of (by simp; done) | exact W32_len (Sha.laying_len _ _ (by omega)) | exact Len.map (W32_len (Sha.laying_len _ _ (by omega))) _ | exact dig_len (by assumption) (by assumption) | exact Len.map (dig_len (by assumption) (by assumption)) _), (by first | assumption | exact Len.map (by assumption) _ | rfl | exact Len.map (by rfl) _ | exact Len.of (by simp; done) | exact W32_len (Sha.laying_len _ _ (by omega)) | exact Len.map (W32_len (Sha.laying_len _ _ (by omega))) _ | exact dig_len (by assumption) (by assumption) | exact Len.map (dig_len (by assumption) (by assumption)) _), (by first | assumption | (simp [maxLen]; done) | omega | (simp [maxLen]; omega)), (by first | omega | (simp only [Len] at *; omega) | (simp; omega)), ?_⟩; intro _ _ _ hM2 _ _; clear hM; have hM := hM2; clear hM2) | ((first | (with_reducible refine gL_field ?_) | ((with_reducible refine gG_field ?_ ?_); (exact wanted_of rfl rfl rfl rfl rfl))); refine ⟨_, _, rfl, (by (first | (exact field_one (fb_of rfl) rfl) | (exact field_agg (fa_of rfl) rfl))), ?_⟩))
              have hl5 : Len (R.map W32) 8 := W32_len hrl
              rw [show dig s b n = dig ((Sha.plus s R).take 0 ++ s.drop 0) b n from rfl] at hM
              go_loopw [15, 178] (fun _ i wr => ∃ t : Nat, t ≤ 8 ∧ i = .int .i64 t ∧ Mem [g] w0 wr [⟨some g11, 111, R.map W32, 8⟩, ⟨some g, 118, dig ((Sha.plus s R).take t ++ s.drop t) b n, 137⟩, ⟨some g4, 113, W.map W32, 64⟩]) (fun _ i _ => 8 - (intOf i).toNat)
              case atStart => exact ⟨0, by omega, rfl, hM⟩
              case round =>
                clear hM
                obtain ⟨t, ht, rfl, hM⟩ := hrel
                have hpl := Sha.plus_len s R hs hrl
                have hAl : ((Sha.plus s R).take t ++ s.drop t).length = 8 := by simp [hpl, hs]; omega
                by_cases hlt : t < 8
                · have hti : (t : Int) < 8 := by omega
                  have HS := Lib.hid (Sha.plus_step s R hs hrl t hlt)
                  generalize (Sha.plus s R).take t ++ s.drop t = A at *
                  go_wp2_with (first | go_skip | ((first | (with_reducible refine gL_load ?_) | ((with_reducible refine gG_load ?_ ?_); (exact wanted_of rfl rfl rfl rfl rfl))); refine ⟨_, _, rfl, (by (first | (exact loads_dig_s hM (by (repeat (first | exact .head _ | apply List.Mem.tail)); done) hs) | (exact loads_dig_n hM (by (repeat (first | exact .head _ | apply List.Mem.tail)); done) hs hb) | (assumption) | (exact hM.loads_B8 (by (repeat (first | exact .head _ | apply List.Mem.tail)); done) (on_of rfl) (by first | omega | (simp only [Len] at *; omega) | (simp; omega))) | (exact hM.loads_all (by (repeat (first | exact .head _ | apply List.Mem.tail)); done) (ag_of rfl) (by first | assumption | exact Len.map (by assumption) _ | rfl | exact Len.map (by rfl) _ | exact Len.of (by simp; done) | exact W32_len (Sha.laying_len _ _ (by omega)) | exact Len.map (W32_len (Sha.laying_len _ _ (by omega))) _ | exact dig_len (by assumption) (by assumption) | exact Len.map (dig_len (by assumption) (by assumption)) _)) | (exact hM.loads_one (by (repeat (first | exact .head _ | apply List.Mem.tail)); done) (on_of rfl) rfl) | (exact hM.loads_W32 (by (repeat (first | exact .head _ | apply List.Mem.tail)); done) (on_of rfl) (by first | omega | (simp only [Len] at *; omega) | (simp; omega))) | (exact loads_cell (by assumption) (on_of rfl)))), ?_⟩) | ((with_reducible refine gL_store hM ?_); refine ⟨_, _, _, rfl, rfl, (by (first | (exact stores_dig_s hM (by (repeat (first | exact .here _ _ _ | apply Has.there)); done) (by assumption) (by assumption)) | (exact hM.stores_B8 (by first | exact (rfl : B8 _ = B8 _) | exact lit8 _ (by decide)) (by (repeat (first | exact .here _ _ _ | apply Has.there)); done) (on_of rfl) (by first | omega | (simp only [Len] at *; omega) | (simp; omega))) | (exact hM.stores_all (by (repeat (first | exact .here _ _ _ | apply Has.there)); done) (ag_of rfl) (by first | assumption | exact Len.map (by assumption) _ | rfl | exact Len.map (by rfl) _ | exact Len.of (by simp; done) | exact W32_len (Sha.laying_len _ _ (by omega)) | exact Len.map (W32_len (Sha.laying_len _ _ (by omega))) _ | exact dig_len (by assumption) (by assumption) | exact Len.map (dig_len (by assumption) (by assumption)) _) (by first | assumption | exact Len.map (by assumption) _ | rfl | exact Len.map (by rfl) _ | exact Len.of (by simp; done) | exact W32_len (Sha.laying_len _ _ (by omega)) | exact Len.map (W32_len (Sha.laying_len _ _ (by omega))) _ | exact dig_len (by assumption) (by assumption) | exact Len.map (dig_len (by assumption) (by assumption)) _) (by first | exact B8_one | exact W32_one | exact one_of_all rfl)) | (exact hM.stores_W32 rfl (by (repeat (first | exact .here _ _ _ | apply Has.there)); done) (on_of rfl) (by first | omega | (simp only [Len] at *; omega) | (simp; omega))) | (exact hM.stores_one (by (repeat (first | exact .here _ _ _ | apply Has.there)); done) (on_of rfl) (by first | omega | (simp only [Len] at *; omega) | (simp; omega)) rfl rfl))), ?_⟩; intro _ hM2; clear hM; have hM := hM2; clear hM2) | ((with_reducible refine gL_alloc hM ?_); refine ⟨_, _, (zr_of rfl), ?_⟩; intro _ _ hM2; clear hM; have hM := hM2; clear hM2) | ((with_reducible refine gL_box hM ?_); refine ⟨_, _, _, rfl, rfl, (by first | assumption | exact Len.map (by assumption) _ | rfl | exact Len.map (by rfl) _ | exact Len.of (by simp; done) | exact W32_len (Sha.laying_len _ _ (by omega)) | exact Len.map (W32_len (Sha.laying_len _ _ (by omega))) _ | exact dig_len (by assumption) (by assumption) | exact Len.map (dig_len (by assumption) (by assumption)) _), ?_⟩; intro _ _ hM2; clear hM; have hM := hM2; clear hM2) | ((with_reducible refine gL_build0 ?_); refine ⟨_, _, _, _, _, _, (zr_of rfl), (ua_of rfl), (ag_of rfl), (el_of rfl), ?_⟩) | ((with_reducible refine gL_buildBytes hM ?_); refine ⟨_, _, (us_of rfl), (el_of rfl), (by decide), (by decide), rfl, (by (repeat (first | exact EvB.nil | apply EvB.cons rfl (by first | exact (rfl : B8 _ = B8 _) | exact lit8 _ (by decide)))); done), ?_⟩; intro _ _ hM2; clear hM; have hM := hM2; clear hM2) | ((with_reducible refine gL_append_B hM ?_); refine ⟨_, _, _, _, _, _, _, _, _, _, rfl, rfl, (by first | exact (rfl : Value.slice (some ⟨_, 0, none⟩) _ _ = sl (some _) _ _) | exact (rfl : Value.slice none _ _ = sl none _ _) | rfl), (us_of rfl), (el_of rfl), (by first | exact hM.src (by (repeat (first | exact .head _ | apply List.Mem.tail)); done) | exact (hM.bytes0 (by assumption)).src), (fun _ _ => by (repeat (first | exact .here _ _ _ | apply Swap.there)); done), (by first | assumption | exact Len.map (by assumption) _ | rfl | exact Len.map (by rfl) _ | exact Len.of (by simp; done) | exact W32_len (Sha.laying_len _ _ (by omega)) | exact Len.map (W32_len (Sha.laying_len _ _ (by omega))) _ | exact dig_len (by assumption) (by assumption) | exact Len.map (dig_len (by assumption) (by assumption)) _), (by first | assumption | exact Len.map (by assumption) _ | rfl | exact Len.map (by rfl) _ | exact Len.of (by simp; done) | exact W32_len (Sha.laying_len _ _ (by omega)) | exact Len.map (W32_len (Sha.laying_len _ _ (by omega))) _ | exact dig_len (by assumption) (by assumption) | exact Len.map (dig_len (by assumption) (by assumption)) _), (by first | assumption | (simp [maxLen]; done) | omega | (simp [maxLen]; omega)), (by first | omega | (simp only [Len] at *; omega) | (simp; omega)), ?_⟩; intro _ _ _ hM2 _ _; clear hM; have hM := hM2; clear hM2) | ((first | (with_reducible refine gL_field ?_) | ((with_reducible refine gG_field ?_ ?_); (exact wanted_of rfl rfl rfl rfl rfl))); refine ⟨_, _, rfl, (by (first | (exact field_one (fb_of rfl) rfl) | (exact field_agg (fa_of rfl) rfl))), ?_⟩))
                  try simp only [Act.put, List.setIfInBounds_toArray, List.set_cons_succ, List.set_cons_zero]
                  refine wp_region_tail 13 (by decide) (fun c vals => ⟨#[(Value.pointer (some ⟨g, 0, none⟩) : Value), c 1, c 2, c 3, c 4, c 5, c 6, c 7, c 8, c 9, c 10, (Value.pointer (some ⟨g11, 0, none⟩) : Value), c 12, c 13, c 14, (Value.int .i64 ((t : Nat) : Int) : Value), c 16, c 17, c 18, c 19, c 20, c 21, c 22, c 23, c 24, c 25, c 26, c 27, c 28, c 29, c 30, c 31, c 32, c 33, c 34, c 35, c 36, c 37, c 38, c 39, c 40, c 41, c 42, c 43, c 44, c 45, c 46, c 47, c 48, c 49, c 50, c 51, c 52, c 53, c 54, c 55, c 56, c 57, c 58, c 59, c 60, c 61, c 62, c 63, c 64, c 65, c 66, c 67, c 68, c 69, c 70, c 71, c 72, c 73, c 74, c 75, c 76, c 77, c 78, c 79, c 80, c 81, c 82, c 83, c 84, c 85, c 86, c 87, c 88, c 89, c 90, c 91, c 92, c 93, c 94, c 95, c 96, c 97, c 98, c 99, c 100, c 101, c 102, c 103, c 104, c 105, c 106, c 107, c 108, c 109, c 110, c 111, c 112, c 113, c 114, c 115, c 116, c 117, c 118, c 119, c 120, c 121, c 122, c 123, c 124, c 125, c 126, c 127, c 128, c 129, c 130, c 131, c 132, c 133, c 134, c 135, c 136, c 137, c 138, c 139, c 140, c 141, c 142, c 143, c 144, c 145, c 146, c 147, c 148, c 149, c 150, c 151, c 152, c 153, c 154, c 155, c 156, c 157, c 158, c 159, c 160, c 161, c 162, c 163, c 164, c 165, c 166, c 167, c 168, c 169, c 170, c 171, c 172, c 173, c 174, c 175, c 176, c 177, c 178, c 179, c 180, vals 0, vals 1, vals 2, vals 3, vals 4, vals 5, vals 6, vals 7, vals 8, vals 9, vals 10, vals 11, vals 12, c 194], []⟩) (fun t => [undef, _, _, _, _, _, _, _, _, _, _, undef, _, _, _, undef, _, _, _, _, _, _, _, _, _, _, _, _, _, _, _, _, _, _, _, _, _, _, _, _, _, _, _, _, _, _, _, _, _, _, _, _, _, _, _, _, _, _, _, _, _, _, _, _, _, _, _, _, _, _, _, _, _, _, _, _, _, _, _, _, _, _, _, _, _, _, _, _, _, _, _, _, _, _, _, _, _, _, _, _, _, _, _, _, _, _, _, _, _, _, _, _, _, _, _, _, _, _, _, _, _, _, _, _, _, _, _, _, _, _, _, _, _, _, _, _, _, _, _, _, _, _, _, _, _, _, _, _, _, _, _, _, _, _, _, _, _, _, _, _, _, _, _, _, _, _, _, _, _, _, _, _, _, _, _, _, _, _, _, _, _, undef, undef, undef, undef, undef, undef, undef, undef, undef, undef, undef, undef, undef, _].getD t undef) (fun i => [_, _, _, _, _, _, _, _, _, _, _, _, _].getD i undef) (by kernel_rfl)
                    [[], [], [0], [0, 2], [0, 1, 2, 3], [0, 1, 2, 3, 4], [], [6], [6, 7], [0, 1, 2, 3, 4, 5, 6, 7, 8], [0], [0, 10], [0, 1, 2, 3, 4, 5, 6, 7, 8, 9, 10, 11], [0, 1, 2, 3, 4, 5, 6, 7, 8, 9, 10, 11, 12]] (by kernel_rfl) (by kernel_rfl) (fun _ => True) trivial
                    [fun x _ => x = (Value.pointer (some ⟨g, 0, none⟩) : Value),
                     fun x _ => x = (Value.int .i64 ((t : Nat) : Int) : Value),
                     fun x _ => x = (Value.pointer (some ⟨g, 0, none⟩) : Value),
                     fun x _ => x = (Value.pointer (some ⟨g, 0, none⟩) : Value),
                     fun x _ => x = (Value.pointer (some ⟨g, t, none⟩) : Value),
                     fun x _ => x = (W32 (gw A t) : Value),
                     fun x _ => x = (Value.int .i64 ((t : Nat) : Int) : Value),
                     fun x _ => x = (Value.pointer (some ⟨g11, t, none⟩) : Value),
                     fun x _ => x = (W32 (gw R t) : Value),
                     fun x _ => x = (W32 ((gw A t) + (gw R t)) : Value),
                     fun x _ => x = (Value.pointer (some ⟨g, 0, none⟩) : Value),
                     fun x _ => x = (Value.pointer (some ⟨g, 0, none⟩) : Value),
                     fun x _ => x = (Value.pointer (some ⟨g, t, none⟩) : Value)]
                    ⟨fun _ _ _ h _ => h, fun _ _ _ h _ => h, fun _ _ _ h _ => h, fun _ _ _ h _ => h, fun _ _ _ h _ => h, fun _ _ _ h _ => h, fun _ _ _ h _ => h, fun _ _ _ h _ => h, fun _ _ _ h _ => h, fun _ _ _ h _ => h, fun _ _ _ h _ => h, fun _ _ _ h _ => h, fun _ _ _ h _ => h, trivial⟩ []
                    ⟨?_, ?_, ?_, ?_, ?_, ?_, ?_, ?_, ?_, ?_, ?_, ?_, ?_, trivial⟩ ?_
                  · refine showA_op 0 (by intro _ _ _; kernel_rfl) rfl rfl (fun c vals w hC hD => ?_)
                    clear hD
                    refine makes1 (x := .tmp 0) (X := Value.pointer (some ⟨g, 0, none⟩)) (by kernel_rfl : _ = (Value.pointer (some ⟨g, 0, none⟩) : Value)) (fun ρ rc rf q0 => ?_)
                    exact makes_move (.inl rfl) q0 ⟨Adds.refl _, rfl⟩
                  · refine showA_op 1 (by intro _ _ _; kernel_rfl) rfl rfl (fun c vals w hC hD => ?_)
                    clear hD
                    refine makes1 (x := .tmp 15) (X := Value.int .i64 ((t : Nat) : Int)) (by kernel_rfl : _ = (Value.int .i64 ((t : Nat) : Int) : Value)) (fun ρ rc rf q15 => ?_)
                    exact makes_move (.inl rfl) q15 ⟨Adds.refl _, rfl⟩
                  · refine showA_op 2 (by intro _ _ _; kernel_rfl) rfl rfl (fun c vals w hC hD => ?_)
                    have h0 : vals 0 = .pointer (some ⟨g, 0, none⟩) := hD 0 rfl
                    clear hD
                    refine makes1 (x := .tmp 181) (X := Value.pointer (some ⟨g, 0, none⟩)) ((by kernel_rfl : _ = vals 0).trans h0) (fun ρ rc rf q181 => ?_)
                    clear h0
                    refine makes_value (v := Value.pointer (some ⟨g, 0, none⟩)) ?_ ⟨Adds.refl _, rfl⟩
                    go_simp
                    all_goals first | done | rfl | (rw [if_pos (by omega)]; refine congrArg (fun x => Result.ok (Next.value (Value.pointer (some ⟨_, x, none⟩))) _) ?_; omega) | (rw [wrapP_i64]; omega) | go_num | (simp; done) | (simp; omega) | (congr 1; first | rfl | (rw [wrapP_i64]; omega) | (congr 1; first | rfl | (simp; done) | (simp; omega) | (congr 2; omega) | go_num))
                  · refine showA_op 3 (by intro _ _ _; kernel_rfl) rfl rfl (fun c vals w hC hD => ?_)
                    have h2 : vals 2 = .pointer (some ⟨g, 0, none⟩) := hD 2 rfl
                    clear hD
                    refine makes1 (x := .tmp 183) (X := Value.pointer (some ⟨g, 0, none⟩)) ((by kernel_rfl : _ = vals 2).trans h2) (fun ρ rc rf q183 => ?_)
                    clear h2
                    refine makes_value (v := Value.pointer (some ⟨g, 0, none⟩)) ?_ ⟨Adds.refl _, rfl⟩
                    go_simp
                    all_goals first | done | rfl | (rw [if_pos (by omega)]; refine congrArg (fun x => Result.ok (Next.value (Value.pointer (some ⟨_, x, none⟩))) _) ?_; omega) | (rw [wrapP_i64]; omega) | go_num | (simp; done) | (simp; omega) | (congr 1; first | rfl | (rw [wrapP_i64]; omega) | (congr 1; first | rfl | (simp; done) | (simp; omega) | (congr 2; omega) | go_num))
                  · refine showA_op 4 (by intro _ _ _; kernel_rfl) rfl rfl (fun c vals w hC hD => ?_)
                    have h3 : vals 3 = .pointer (some ⟨g, 0, none⟩) := hD 3 rfl
                    have h1 : vals 1 = .int .i64 ((t : Nat) : Int) := hD 1 rfl
                    clear hD
                    refine makes2 (x := .tmp 184) (X := Value.pointer (some ⟨g, 0, none⟩)) (y := .tmp 182) (Y := Value.int .i64 ((t : Nat) : Int)) ((by kernel_rfl : _ = vals 3).trans h3) ((by kernel_rfl : _ = vals 1).trans h1) (fun ρ rc rf q184 q182 => ?_)
                    clear h3 h1
                    refine makes_value (v := Value.pointer (some ⟨g, t, none⟩)) ?_ ⟨Adds.refl _, rfl⟩
                    go_simp
                    all_goals first | done | rfl | (rw [if_pos (by omega)]; refine congrArg (fun x => Result.ok (Next.value (Value.pointer (some ⟨_, x, none⟩))) _) ?_; omega) | (rw [wrapP_i64]; omega) | go_num | (simp; done) | (simp; omega) | (congr 1; first | rfl | (rw [wrapP_i64]; omega) | (congr 1; first | rfl | (simp; done) | (simp; omega) | (congr 2; omega) | go_num))
                  · refine showA_op 5 (by intro _ _ _; kernel_rfl) rfl rfl (fun c vals w hC hD => ?_)
                    have h4 : vals 4 = .pointer (some ⟨g, t, none⟩) := hD 4 rfl
                    clear hD
                    refine makes1 (x := .tmp 185) (X := Value.pointer (some ⟨g, t, none⟩)) ((by kernel_rfl : _ = vals 4).trans h4) (fun ρ rc rf q185 => ?_)
                    clear h4
                    exact makes_load (loads_dig_si (hM.adds hC) (by (repeat (first | exact .head _ | apply List.Mem.tail)); done) hAl hlt) rfl q185 ⟨Adds.refl _, rfl⟩
                  · refine showA_op 6 (by intro _ _ _; kernel_rfl) rfl rfl (fun c vals w hC hD => ?_)
                    clear hD
                    refine makes1 (x := .tmp 15) (X := Value.int .i64 ((t : Nat) : Int)) (by kernel_rfl : _ = (Value.int .i64 ((t : Nat) : Int) : Value)) (fun ρ rc rf q15 => ?_)
                    exact makes_move (.inl rfl) q15 ⟨Adds.refl _, rfl⟩
                  · refine showA_op 7 (by intro _ _ _; kernel_rfl) rfl rfl (fun c vals w hC hD => ?_)
                    have h6 : vals 6 = .int .i64 ((t : Nat) : Int) := hD 6 rfl
                    clear hD
                    refine makes2 (x := .tmp 11) (X := Value.pointer (some ⟨g11, 0, none⟩)) (y := .tmp 187) (Y := Value.int .i64 ((t : Nat) : Int)) (by kernel_rfl : _ = (Value.pointer (some ⟨g11, 0, none⟩) : Value)) ((by kernel_rfl : _ = vals 6).trans h6) (fun ρ rc rf q11 q187 => ?_)
                    clear h6
                    refine makes_value (v := Value.pointer (some ⟨g11, t, none⟩)) ?_ ⟨Adds.refl _, rfl⟩
                    go_simp
                    all_goals first | done | rfl | (rw [if_pos (by omega)]; refine congrArg (fun x => Result.ok (Next.value (Value.pointer (some ⟨_, x, none⟩))) _) ?_; omega) | (rw [wrapP_i64]; omega) | go_num | (simp; done) | (simp; omega) | (congr 1; first | rfl | (rw [wrapP_i64]; omega) | (congr 1; first | rfl | (simp; done) | (simp; omega) | (congr 2; omega) | go_num))
                  · refine showA_op 8 (by intro _ _ _; kernel_rfl) rfl rfl (fun c vals w hC hD => ?_)
                    have h7 : vals 7 = .pointer (some ⟨g11, t, none⟩) := hD 7 rfl
                    clear hD
                    refine makes1 (x := .tmp 188) (X := Value.pointer (some ⟨g11, t, none⟩)) ((by kernel_rfl : _ = vals 7).trans h7) (fun ρ rc rf q188 => ?_)
                    clear h7
                    exact makes_load ((hM.adds hC).loads_W32 (by (repeat (first | exact .head _ | apply List.Mem.tail)); done) (on_of rfl) (by first | omega | (simp only [Len] at *; omega) | (simp; omega))) rfl q188 ⟨Adds.refl _, rfl⟩
                  · refine showA_op 9 (by intro _ _ _; kernel_rfl) rfl rfl (fun c vals w hC hD => ?_)
                    have h5 : vals 5 = W32 (gw A t) := hD 5 rfl
                    have h8 : vals 8 = W32 (gw R t) := hD 8 rfl
                    clear hD
                    refine makes2 (x := .tmp 186) (X := W32 (gw A t)) (y := .tmp 189) (Y := W32 (gw R t)) ((by kernel_rfl : _ = vals 5).trans h5) ((by kernel_rfl : _ = vals 8).trans h8) (fun ρ rc rf q186 q189 => ?_)
                    clear h5 h8
                    refine makes_value (v := W32 ((gw A t) + (gw R t))) ?_ ⟨Adds.refl _, rfl⟩
                    go_simp
                    all_goals first | done | rfl | (rw [if_pos (by omega)]; refine congrArg (fun x => Result.ok (Next.value (Value.pointer (some ⟨_, x, none⟩))) _) ?_; omega) | (rw [wrapP_i64]; omega) | go_num | (simp; done) | (simp; omega) | (congr 1; first | rfl | (rw [wrapP_i64]; omega) | (congr 1; first | rfl | (simp; done) | (simp; omega) | (congr 2; omega) | go_num))
                  · refine showA_op 10 (by intro _ _ _; kernel_rfl) rfl rfl (fun c vals w hC hD => ?_)
                    have h0 : vals 0 = .pointer (some ⟨g, 0, none⟩) := hD 0 rfl
                    clear hD
                    refine makes1 (x := .tmp 181) (X := Value.pointer (some ⟨g, 0, none⟩)) ((by kernel_rfl : _ = vals 0).trans h0) (fun ρ rc rf q181 => ?_)
                    clear h0
                    refine makes_value (v := Value.pointer (some ⟨g, 0, none⟩)) ?_ ⟨Adds.refl _, rfl⟩
                    go_simp
                    all_goals first | done | rfl | (rw [if_pos (by omega)]; refine congrArg (fun x => Result.ok (Next.value (Value.pointer (some ⟨_, x, none⟩))) _) ?_; omega) | (rw [wrapP_i64]; omega) | go_num | (simp; done) | (simp; omega) | (congr 1; first | rfl | (rw [wrapP_i64]; omega) | (congr 1; first | rfl | (simp; done) | (simp; omega) | (congr 2; omega) | go_num))
                  · refine showA_op 11 (by intro _ _ _; kernel_rfl) rfl rfl (fun c vals w hC hD => ?_)
                    have h10 : vals 10 = .pointer (some ⟨g, 0, none⟩) := hD 10 rfl
                    clear hD
                    refine makes1 (x := .tmp 191) (X := Value.pointer (some ⟨g, 0, none⟩)) ((by kernel_rfl : _ = vals 10).trans h10) (fun ρ rc rf q191 => ?_)
                    clear h10
                    refine makes_value (v := Value.pointer (some ⟨g, 0, none⟩)) ?_ ⟨Adds.refl _, rfl⟩
                    go_simp
                    all_goals first | done | rfl | (rw [if_pos (by omega)]; refine congrArg (fun x => Result.ok (Next.value (Value.pointer (some ⟨_, x, none⟩))) _) ?_; omega) | (rw [wrapP_i64]; omega) | go_num | (simp; done) | (simp; omega) | (congr 1; first | rfl | (rw [wrapP_i64]; omega) | (congr 1; first | rfl | (simp; done) | (simp; omega) | (congr 2; omega) | go_num))
                  · refine showA_op 12 (by intro _ _ _; kernel_rfl) rfl rfl (fun c vals w hC hD => ?_)
                    have h11 : vals 11 = .pointer (some ⟨g, 0, none⟩) := hD 11 rfl
                    have h1 : vals 1 = .int .i64 ((t : Nat) : Int) := hD 1 rfl
                    clear hD
                    refine makes2 (x := .tmp 192) (X := Value.pointer (some ⟨g, 0, none⟩)) (y := .tmp 182) (Y := Value.int .i64 ((t : Nat) : Int)) ((by kernel_rfl : _ = vals 11).trans h11) ((by kernel_rfl : _ = vals 1).trans h1) (fun ρ rc rf q192 q182 => ?_)
                    clear h11 h1
                    refine makes_value (v := Value.pointer (some ⟨g, t, none⟩)) ?_ ⟨Adds.refl _, rfl⟩
                    go_simp
                    all_goals first | done | rfl | (rw [if_pos (by omega)]; refine congrArg (fun x => Result.ok (Next.value (Value.pointer (some ⟨_, x, none⟩))) _) ?_; omega) | (rw [wrapP_i64]; omega) | go_num | (simp; done) | (simp; omega) | (congr 1; first | rfl | (rw [wrapP_i64]; omega) | (congr 1; first | rfl | (simp; done) | (simp; omega) | (congr 2; omega) | go_num))
                  intro vals w' hC hΦ hne
                  have h9 : vals 9 = W32 ((gw A t) + (gw R t)) := hΦ 9 (by decide)
                  have h12 : vals 12 = .pointer (some ⟨g, t, none⟩) := hΦ 12 (by decide)
                  clear hΦ hne
                  simp only [List.getD_eq_getElem?_getD, List.getElem?_cons_zero, List.getElem?_cons_succ, Option.getD_some, List.drop_succ_cons, List.drop_zero]
                  simp only [h9, h12]
                  clear h9 h12
                  try simp only [tuple_undef]
                  replace hM := hM.adds hC
                  clear hC
                  go_wp2_with (first | go_skip | ((first | (with_reducible refine gL_load ?_) | ((with_reducible refine gG_load ?_ ?_); (exact wanted_of rfl rfl rfl rfl rfl))); refine ⟨_, _, rfl, (by (first | (exact loads_dig_s hM (by (repeat (first | exact .head _ | apply List.Mem.tail)); done) hs) | (exact loads_dig_n hM (by (repeat (first | exact .head _ | apply List.Mem.tail)); done) hs hb) | (assumption) | (exact hM.loads_B8 (by (repeat (first | exact .head _ | apply List.Mem.tail)); done) (on_of rfl) (by first | omega | (simp only [Len] at *; omega) | (simp; omega))) | (exact hM.loads_all (by (repeat (first | exact .head _ | apply List.Mem.tail)); done) (ag_of rfl) (by first | assumption | exact Len.map (by assumption) _ | rfl | exact Len.map (by rfl) _ | exact Len.of (by simp; done) | exact W32_len (Sha.laying_len _ _ (by omega)) | exact Len.map (W32_len (Sha.laying_len _ _ (by omega))) _ | exact dig_len (by assumption) (by assumption) | exact Len.map (dig_len (by assumption) (by assumption)) _)) | (exact hM.loads_one (by (repeat (first | exact .head _ | apply List.Mem.tail)); done) (on_of rfl) rfl) | (exact hM.loads_W32 (by (repeat (first | exact .head _ | apply List.Mem.tail)); done) (on_of rfl) (by first | omega | (simp only [Len] at *; omega) | (simp; omega))) | (exact loads_cell (by assumption) (on_of rfl)))), ?_⟩) | ((with_reducible refine gL_store hM ?_); refine ⟨_, _, _, rfl, rfl, (by (first | (exact stores_dig_s hM (by (repeat (first | exact .here _ _ _ | apply Has.there)); done) (by assumption) (by assumption)) | (exact hM.stores_B8 (by first | exact (rfl : B8 _ = B8 _) | exact lit8 _ (by decide)) (by (repeat (first | exact .here _ _ _ | apply Has.there)); done) (on_of rfl) (by first | omega | (simp only [Len] at *; omega) | (simp; omega))) | (exact hM.stores_all (by (repeat (first | exact .here _ _ _ | apply Has.there)); done) (ag_of rfl) (by first | assumption | exact Len.map (by assumption) _ | rfl | exact Len.map (by rfl) _ | exact Len.of (by simp; done) | exact W32_len (Sha.laying_len _ _ (by omega)) | exact Len.map (W32_len (Sha.laying_len _ _ (by omega))) _ | exact dig_len (by assumption) (by assumption) | exact Len.map (dig_len (by assumption) (by assumption)) _) (by first | assumption | exact Len.map (by assumption) _ | rfl | exact Len.map (by rfl) _ | exact Len.of (by simp; done) | exact W32_len (Sha.laying_len _ _ (by omega)) | exact Len.map (W32_len (Sha.laying_len _ _ (by omega))) _ | exact dig_len (by assumption) (by assumption) | exact Len.map (dig_len (by assumption) (by assumption)) _) (by first | exact B8_one | exact W32_one | exact one_of_all rfl)) | (exact hM.stores_W32 rfl (by (repeat (first | exact .here _ _ _ | apply Has.there)); done) (on_of rfl) (by first | omega | (simp only [Len] at *; omega) | (simp; omega))) | (exact hM.stores_one (by (repeat (first | exact .here _ _ _ | apply Has.there)); done) (on_of rfl) (by first | omega | (simp only [Len] at *; omega) | (simp; omega)) rfl rfl))), ?_⟩; intro _ hM2; clear hM; have hM := hM2; clear hM2) | ((with_reducible refine gL_alloc hM ?_); refine ⟨_, _, (zr_of rfl), ?_⟩; intro _ _ hM2; clear hM; have hM := hM2; clear hM2) | ((with_reducible refine gL_box hM ?_); refine ⟨_, _, _, rfl, rfl, (by first | assumption | exact Len.map (by assumption) _ | rfl | exact Len.map (by rfl) _ | exact Len.of (by simp; done) | exact W32_len (Sha.laying_len _ _ (by omega)) | exact Len.map (W32_len (Sha.laying_len _ _ (by omega))) _ | exact dig_len (by assumption) (by assumption) | exact Len.map (dig_len (by assumption) (by assumption)) _), ?_⟩; intro _ _ hM2; clear hM; have hM := hM2; clear hM2) | ((with_reducible refine gL_build0 ?_); refine ⟨_, _, _, _, _, _, (zr_of rfl), (ua_of rfl), (ag_of rfl), (el_of rfl), ?_⟩) | ((with_reducible refine gL_buildBytes hM ?_); refine ⟨_, _, (us_of rfl), (el_of rfl), (by decide), (by decide), rfl, (by (repeat (first | exact EvB.nil | apply EvB.cons rfl (by first | exact (rfl : B8 _ = B8 _) | exact lit8 _ (by decide)))); done), ?_⟩; intro _ _ hM2; clear hM; have hM := hM2; clear hM2) | ((with_reducible refine gL_append_B hM ?_); refine ⟨_, _, _, _, _, _, _, _, _, _, rfl, rfl, (by first | exact (rfl : Value.slice (some ⟨_, 0, none⟩) _ _ = sl (some _) _ _) | exact (rfl : Value.slice none _ _ = sl none _ _) | rfl), (us_of rfl), (el_of rfl), (by first | exact hM.src (by (repeat (first | exact .head _ | apply List.Mem.tail)); done) | exact (hM.bytes0 (by assumption)).src), (fun _ _ => by (repeat (first | exact .here _ _ _ | apply Swap.there)); done), (by first | assumption | exact Len.map (by assumption) _ | rfl | exact Len.map (by rfl) _ | exact Len.of (by simp; done) | exact W32_len (Sha.laying_len _ _ (by omega)) | exact Len.map (W32_len (Sha.laying_len _ _ (by omega))) _ | exact dig_len (by assumption) (by assumption) | exact Len.map (dig_len (by assumption) (by assumption)) _), (by first | assumption | exact Len.map (by assumption) _ | rfl | exact Len.map (by rfl) _ | exact Len.of (by simp; done) | exact W32_len (Sha.laying_len _ _ (by omega)) | exact Len.map (W32_len (Sha.laying_len _ _ (by omega))) _ | exact dig_len (by assumption) (by assumption) | exact Len.map (dig_len (by assumption) (by assumption)) _), (by first | assumption | (simp [maxLen]; done) | omega | (simp [maxLen]; omega)), (by first | omega | (simp only [Len] at *; omega) | (simp; omega)), ?_⟩; intro _ _ _ hM2 _ _; clear hM; have hM := hM2; clear hM2) | ((first | (with_reducible refine gL_field ?_) | ((with_reducible refine gG_field ?_ ?_); (exact wanted_of rfl rfl rfl rfl rfl))); refine ⟨_, _, rfl, (by (first | (exact field_one (fb_of rfl) rfl) | (exact field_agg (fa_of rfl) rfl))), ?_⟩))
                  rw [HS.out] at hM
                  go_roundw
                  case rel => exact ⟨t + 1, by omega, by go_num, hM⟩
                  case measure => simp [intOf]; omega
                · have : t = 8 := by omega
                  subst this
                  rw [List.take_of_length_le (by omega), List.drop_of_length_le (by omega), List.append_nil, ← HP.out] at hM
                  go_wp2_with (first | go_skip | ((first | (with_reducible refine gL_load ?_) | ((with_reducible refine gG_load ?_ ?_); (exact wanted_of rfl rfl rfl rfl rfl))); refine ⟨_, _, rfl, (by (first | (exact loads_dig_s hM (by (repeat (first | exact .head _ | apply List.Mem.tail)); done) hs) | (exact loads_dig_n hM (by (repeat (first | exact .head _ | apply List.Mem.tail)); done) hs hb) | (assumption) | (exact hM.loads_B8 (by (repeat (first | exact .head _ | apply List.Mem.tail)); done) (on_of rfl) (by first | omega | (simp only [Len] at *; omega) | (simp; omega))) | (exact hM.loads_all (by (repeat (first | exact .head _ | apply List.Mem.tail)); done) (ag_of rfl) (by first | assumption | exact Len.map (by assumption) _ | rfl | exact Len.map (by rfl) _ | exact Len.of (by simp; done) | exact W32_len (Sha.laying_len _ _ (by omega)) | exact Len.map (W32_len (Sha.laying_len _ _ (by omega))) _ | exact dig_len (by assumption) (by assumption) | exact Len.map (dig_len (by assumption) (by assumption)) _)) | (exact hM.loads_one (by (repeat (first | exact .head _ | apply List.Mem.tail)); done) (on_of rfl) rfl) | (exact hM.loads_W32 (by (repeat (first | exact .head _ | apply List.Mem.tail)); done) (on_of rfl) (by first | omega | (simp only [Len] at *; omega) | (simp; omega))) | (exact loads_cell (by assumption) (on_of rfl)))), ?_⟩) | ((with_reducible refine gL_store hM ?_); refine ⟨_, _, _, rfl, rfl, (by (first | (exact stores_dig_s hM (by (repeat (first | exact .here _ _ _ | apply Has.there)); done) (by assumption) (by assumption)) | (exact hM.stores_B8 (by first | exact (rfl : B8 _ = B8 _) | exact lit8 _ (by decide)) (by (repeat (first | exact .here _ _ _ | apply Has.there)); done) (on_of rfl) (by first | omega | (simp only [Len] at *; omega) | (simp; omega))) | (exact hM.stores_all (by (repeat (first | exact .here _ _ _ | apply Has.there)); done) (ag_of rfl) (by first | assumption | exact Len.map (by assumption) _ | rfl | exact Len.map (by rfl) _ | exact Len.of (by simp; done) | exact W32_len (Sha.laying_len _ _ (by omega)) | exact Len.map (W32_len (Sha.laying_len _ _ (by omega))) _ | exact dig_len (by assumption) (by assumption) | exact Len.map (dig_len (by assumption) (by assumption)) _) (by first | assumption | exact Len.map (by assumption) _ | rfl | exact Len.map (by rfl) _ | exact Len.of (by simp; done) | exact W32_len (Sha.laying_len _ _ (by omega)) | exact Len.map (W32_len (Sha.laying_len _ _ (by omega))) _ | exact dig_len (by assumption) (by assumption) | exact Len.map (dig_len (by assumption) (by assumption)) _) (by first | exact B8_one | exact W32_one | exact one_of_all rfl)) | (exact hM.stores_W32 rfl (by (repeat (first | exact .here _ _ _ | apply Has.there)); done) (on_of rfl) (by first | omega | (simp only [Len] at *; omega) | (simp; omega))) | (exact hM.stores_one (by (repeat (first | exact .here _ _ _ | apply Has.there)); done) (on_of rfl) (by first | omega | (simp only [Len] at *; omega) | (simp; omega)) rfl rfl))), ?_⟩; intro _ hM2; clear hM; have hM := hM2; clear hM2) | ((with_reducible refine gL_alloc hM ?_); refine ⟨_, _, (zr_of rfl), ?_⟩; intro _ _ hM2; clear hM; have hM := hM2; clear hM2) | ((with_reducible refine gL_box hM ?_); refine ⟨_, _, _, rfl, rfl, (by first | assumption | exact Len.map (by assumption) _ | rfl | exact Len.map (by rfl) _ | exact Len.of (by simp; done) | exact W32_len (Sha.laying_len _ _ (by omega)) | exact Len.map (W32_len (Sha.laying_len _ _ (by omega))) _ | exact dig_len (by assumption) (by assumption) | exact Len.map (dig_len (by assumption) (by assumption)) _), ?_⟩; intro _ _ hM2; clear hM; have hM := hM2; clear hM2) | ((with_reducible refine gL_build0 ?_); refine ⟨_, _, _, _, _, _, (zr_of rfl), (ua_of rfl), (ag_of rfl), (el_of rfl), ?_⟩) | ((with_reducible refine gL_buildBytes hM ?_); refine ⟨_, _, (us_of rfl), (el_of rfl), (by decide), (by decide), rfl, (by (repeat (first | exact EvB.nil | apply EvB.cons rfl (by first | exact (rfl : B8 _ = B8 _) | exact lit8 _ (by decide)))); done), ?_⟩; intro _ _ hM2; clear hM; have hM := hM2; clear hM2) | ((with_reducible refine gL_append_B hM ?_); refine ⟨_, _, _, _, _, _, _, _, _, _, rfl, rfl, (by first | exact (rfl : Value.slice (some ⟨_, 0, none⟩) _ _ = sl (some _) _ _) | exact (rfl : Value.slice none _ _ = sl none _ _) | rfl), (us_of rfl), (el_of rfl), (by first | exact hM.src (by (repeat (first | exact .head _ | apply List.Mem.tail)); done) | exact (hM.bytes0 (by assumption)).src), (fun _ _ => by (repeat (first | exact .here _ _ _ | apply Swap.there)); done), (by first | assumption | exact Len.map (by assumption) _ | rfl | exact Len.map (by rfl) _ | exact Len.of (by simp; done) | exact W32_len (Sha.laying_len _ _ (by omega)) | exact Len.map (W32_len (Sha.laying_len _ _ (by omega))) _ | exact dig_len (by assumption) (by assumption) | exact Len.map (dig_len (by assumption) (by assumption)) _), (by first | assumption | exact Len.map (by assumption) _ | rfl | exact Len.map (by rfl) _ | exact Len.of (by simp; done) | exact W32_len (Sha.laying_len _ _ (by omega)) | exact Len.map (W32_len (Sha.laying_len _ _ (by omega))) _ | exact dig_len (by assumption) (by assumption) | exact Len.map (dig_len (by assumption) (by assumption)) _), (by first | assumption | (simp [maxLen]; done) | omega | (simp [maxLen]; omega)), (by first | omega | (simp only [Len] at *; omega) | (simp; omega)), ?_⟩; intro _ _ _ hM2 _ _; clear hM; have hM := hM2; clear hM2) | ((first | (with_reducible refine gL_field ?_) | ((with_reducible refine gG_field ?_ ?_); (exact wanted_of rfl rfl rfl rfl rfl))); refine ⟨_, _, rfl, (by (first | (exact field_one (fb_of rfl) rfl) | (exact field_agg (fa_of rfl) rfl))), ?_⟩))
                  go_end0
                  exact ⟨rfl, hM.touch, hM.rowN (.tail _ (.head _)) (dig_len (Sha.piece_len _ _ hs) hb)⟩
end Go.Proofs.Ytejmbkljnhnklaa
