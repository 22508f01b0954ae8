/-
  The walk of the reference of layer 2: padded.
  The walk of the reference of layer 2: Of.
  Equality of two hashes.
  Tags of bytes under keys, as plain functions; nothing of the program.
  The walks of mac's New.
  The walks of mac's Sum, Of, Derive.
  The walks of the reference of layer 3: over, block, Of.
  The walk of the reference of layer 3: Of.
-/
import Derived.Test.YtejmbkljnhnklaaDoorZc
import Derived.Test.YtejmbkljnhnklaaDoorZd
import Derived.Test.YtejmbkljnhnklaaDoorZb
namespace Go.Proofs.YtejmbkljnhnklaaDoor
open Go.RowKit Go.PK
theorem _root_.Go.PK.Mem.sub {G : List Nat} {w0 w : World} {L L' : List Blk} (hM : Mem G w0 w L) (h : L'.Sublist L) : Mem G w0 w L' :=
  ⟨hM.touch, fun b hb => hM.holds b (h.subset hb), fun b hb => hM.own b (h.subset hb), (h.filterMap _).nodup hM.nodup⟩
set_option maxRecDepth 100000 in
set_option maxHeartbeats 4000000 in
theorem ref02_padded (w0 : World) (v : Value) (l : List UInt8) (hv : Bytes w0 v l) (hlen : l.length ≤ 140737488355000) :
    Calls Tryd.prog 48 #[v] w0 fun e w' => ∃ gp n cap, e = .returned (.slice (some ⟨gp, 0, none⟩) n cap) ∧ Len (Sha.padded l) n ∧ cap ≤ maxLen ∧ Mem [] w0 w' [⟨some gp, 5, (Sha.padded l).map B8, cap⟩] := by
  have hM : Mem [] w0 w0 [⟨none, 5, ([] : List UInt8).map B8, 0⟩] := (Mem.start w0).addNil 5
  have hll : Len l l.length := Len.of rfl
  have hl0 : Len ([] : List UInt8) 0 := rfl
  have hl1 : ∀ x : UInt8, Len [x] 1 := fun _ => rfl
  have hvl : ∃ ao cap0, v = .slice ao l.length cap0 := by
    obtain ⟨ao, cap, rfl, -⟩ := id hv
    exact ⟨ao, cap, rfl⟩
  obtain ⟨ao, cap0, rfl⟩ := hvl
  go_enter Tryd.func48, Tryd.ntmps48
  go_wp2_with (first | ((with_reducible refine gL_append_B hM ?_); refine ⟨_, _, none, 0, 0, 5, [], l, l.length, fun ob' cap' => [⟨ob', 5, ([] ++ l).map B8, cap'⟩], rfl, rfl, rfl, (us_of rfl), (el_of rfl), (hM.bytes0 hv).src, fun _ _ => .here _ _ _, hl0, hll, by decide, by omega, ?_⟩; intro ob1 cap1 _ hM2 hc1 hc2; clear hM; have hM := hM2; clear hM2) | go_skip | ((first | (with_reducible refine gL_load ?_) | ((with_reducible refine gG_load ?_ ?_); (exact wanted_of rfl rfl rfl rfl rfl))); refine ⟨_, _, rfl, (by (first | (assumption) | (exact hM.loads_B8 (by (repeat (first | exact .head _ | apply List.Mem.tail)); done) (on_of rfl) (by first | omega | (simp only [Len] at *; omega) | (simp; omega))) | (exact hM.loads_all (by (repeat (first | exact .head _ | apply List.Mem.tail)); done) (ag_of rfl) (by first | assumption | exact Len.map (by assumption) _ | rfl | exact Len.map (by rfl) _ | exact Len.of (by simp; done))) | (exact hM.loads_one (by (repeat (first | exact .head _ | apply List.Mem.tail)); done) (on_of rfl) rfl) | (exact hM.loads_W32 (by (repeat (first | exact .head _ | apply List.Mem.tail)); done) (on_of rfl) (by first | omega | (simp only [Len] at *; omega) | (simp; omega))) | (exact loads_cell (by assumption) (on_of rfl)))), ?_⟩) | ((with_reducible refine gL_store hM ?_); refine ⟨_, _, _, rfl, rfl, (by (first | (exact hM.stores_B8 (by first | exact (rfl : B8 _ = B8 _) | exact lit8 _ (by decide)) (by (repeat (first | exact .here _ _ _ | apply Has.there)); done) (on_of rfl) (by first | omega | (simp only [Len] at *; omega) | (simp; omega))) | (exact hM.stores_all (by (repeat (first | exact .here _ _ _ | apply Has.there)); done) (ag_of rfl) (by first | assumption | exact Len.map (by assumption) _ | rfl | exact Len.map (by rfl) _ | exact Len.of (by simp; done)) (by first | assumption | exact Len.map (by assumption) _ | rfl | exact Len.map (by rfl) _ | exact Len.of (by simp; done)) (by first | exact B8_one | exact W32_one | exact one_of_all rfl)) | (exact hM.stores_W32 rfl (by (repeat (first | exact .here _ _ _ | apply Has.there)); done) (on_of rfl) (by first | omega | (simp only [Len] at *; omega) | (simp; omega))) | (exact hM.stores_one (by (repeat (first | exact .here _ _ _ | apply Has.there)); done) (on_of rfl) (by first | omega | (simp only [Len] at *; omega) | (simp; omega)) rfl rfl))), ?_⟩; intro _ hM2; clear hM; have hM := hM2; clear hM2) | ((with_reducible refine gL_alloc hM ?_); refine ⟨_, _, (zr_of rfl), ?_⟩; intro _ _ hM2; clear hM; have hM := hM2; clear hM2) | ((with_reducible refine gL_box hM ?_); refine ⟨_, _, _, rfl, rfl, (by first | assumption | exact Len.map (by assumption) _ | rfl | exact Len.map (by rfl) _ | exact Len.of (by simp; done)), ?_⟩; intro _ _ hM2; clear hM; have hM := hM2; clear hM2) | ((with_reducible refine gL_build0 ?_); refine ⟨_, _, _, _, _, _, (zr_of rfl), (ua_of rfl), (ag_of rfl), (el_of rfl), ?_⟩) | ((with_reducible refine gL_buildBytes hM ?_); refine ⟨_, _, (us_of rfl), (el_of rfl), (by decide), (by decide), rfl, (by (repeat (first | exact EvB.nil | apply EvB.cons rfl (by first | exact (rfl : B8 _ = B8 _) | exact lit8 _ (by decide)))); done), ?_⟩; intro _ _ hM2; clear hM; have hM := hM2; clear hM2) | ((with_reducible refine gL_append_B hM ?_); refine ⟨_, _, _, _, _, _, _, _, _, _, rfl, rfl, (by first | exact (rfl : Value.slice (some ⟨_, 0, none⟩) _ _ = sl (some _) _ _) | exact (rfl : Value.slice none _ _ = sl none _ _) | rfl), (us_of rfl), (el_of rfl), (by first | exact hM.src (by (repeat (first | exact .head _ | apply List.Mem.tail)); done) | exact (hM.bytes0 (by assumption)).src), (fun _ _ => by (repeat (first | exact .here _ _ _ | apply Swap.there)); done), (by first | assumption | exact Len.map (by assumption) _ | rfl | exact Len.map (by rfl) _ | exact Len.of (by simp; done)), (by first | assumption | exact Len.map (by assumption) _ | rfl | exact Len.map (by rfl) _ | exact Len.of (by simp; done)), (by first | assumption | (simp [maxLen]; done) | omega | (simp [maxLen]; omega)), (by first | omega | (simp only [Len] at *; omega) | (simp; omega)), ?_⟩; intro _ _ _ hM2 _ _; clear hM; have hM := hM2; clear hM2) | ((first | (with_reducible refine gL_field ?_) | ((with_reducible refine gG_field ?_ ?_); (exact wanted_of rfl rfl rfl rfl rfl))); refine ⟨_, _, rfl, (by (first | (exact field_one (fb_of rfl) rfl) | (exact field_agg (fa_of rfl) rfl))), ?_⟩))
  have hXl : Len ([] ++ l ++ [128]) (l.length + 1) := Len.of (by simp)
  obtain ⟨gp, hgp⟩ := hM.some_of (.tail _ (.head _)) (hXl.map B8) (by omega)
  subst hgp
  have hM0 : Mem [] w0 _ [⟨some gp, 5, (l ++ 128 :: List.replicate 0 0).map B8, _⟩] := hM.sub (by repeat (first | exact List.nil_sublist _ | apply List.Sublist.cons_cons | apply List.Sublist.cons))
  clear hM hXl
  have hM := hM0
  clear hM0
  obtain ⟨z, hz⟩ : ∃ z, z = Sha.zeros l.length := ⟨_, rfl⟩
  have hz64 : z < 64 := by rw [hz]; exact Sha.zeros_lt _
  have hzm : (l.length + 1 + z) % 64 = 56 := by rw [hz]; unfold Sha.zeros; omega
  have HZ : ∀ _ : Unit, z = Sha.zeros l.length := fun _ => hz
  clear hz
  rw [sl_some]
  go_loopw [3] (fun p wr => ∃ j n gp cap, j ≤ z ∧ n = l.length + 1 + j ∧ p = .slice (some ⟨gp, 0, none⟩) n cap ∧ cap ≤ maxLen ∧ Mem [] w0 wr [⟨some gp, 5, (l ++ 128 :: List.replicate j 0).map B8, cap⟩]) (fun p _ => l.length + 1 + z - slLen p)
  case atStart => exact ⟨0, _, gp, _, by omega, rfl, rfl, by assumption, hM⟩
  case round =>
    clear hM
    obtain ⟨j, n, gp, cap, hj, hn, rfl, hcap, hM⟩ := hrel
    have hl3 : Len (l ++ 128 :: List.replicate j 0) n := Len.of (by simp; omega)
    generalize hX : l ++ 128 :: List.replicate j 0 = X at *
    have HX : ∀ _ : Unit, l ++ 128 :: List.replicate j 0 = X := fun _ => hX
    clear hX
    have hnn : n ≤ l.length + 1 + z := by omega
    have hX1 : ∀ _ : Unit, X ++ [0] = l ++ 128 :: List.replicate (j + 1) 0 := fun _ => by rw [← HX (), List.replicate_succ']; simp
    by_cases hlt : j < z
    · have h56 : ¬ (n : Int) % 64 = 56 := by omega
      have hnb : n ≤ 140737488355200 := by omega
      have hnj : n = l.length + 1 + j := hn
      have HN : ∀ _ : Unit, n = l.length + 1 + j := fun _ => hnj
      clear hn hnj
      go_wp2_with (first | ((with_reducible refine gL_append_B hM ?_); refine ⟨_, _, some gp, n, cap, 5, X, [0], 1, fun ob' cap' => [_, ⟨ob', 5, (X ++ [0]).map B8, cap'⟩], rfl, rfl, rfl, (us_of rfl), (el_of rfl), hM.src (.head _), fun _ _ => .there _ (.here _ _ _), hl3, rfl, hcap, by omega, ?_⟩; intro ob1 cap1 _ hM2 hd1 hd2; clear hM; have hM := hM2; clear hM2) | go_skip | ((first | (with_reducible refine gL_load ?_) | ((with_reducible refine gG_load ?_ ?_); (exact wanted_of rfl rfl rfl rfl rfl))); refine ⟨_, _, rfl, (by (first | (assumption) | (exact hM.loads_B8 (by (repeat (first | exact .head _ | apply List.Mem.tail)); done) (on_of rfl) (by first | omega | (simp only [Len] at *; omega) | (simp; omega))) | (exact hM.loads_all (by (repeat (first | exact .head _ | apply List.Mem.tail)); done) (ag_of rfl) (by first | assumption | exact Len.map (by assumption) _ | rfl | exact Len.map (by rfl) _ | exact Len.of (by simp; done))) | (exact hM.loads_one (by (repeat (first | exact .head _ | apply List.Mem.tail)); done) (on_of rfl) rfl) | (exact hM.loads_W32 (by (repeat (first | exact .head _ | apply List.Mem.tail)); done) (on_of rfl) (by first | omega | (simp only [Len] at *; omega) | (simp; omega))) | (exact loads_cell (by assumption) (on_of rfl)))), ?_⟩) | ((with_reducible refine gL_store hM ?_); refine ⟨_, _, _, rfl, rfl, (by (first | (exact hM.stores_B8 (by first | exact (rfl : B8 _ = B8 _) | exact lit8 _ (by decide)) (by (repeat (first | exact .here _ _ _ | apply Has.there)); done) (on_of rfl) (by first | omega | (simp only [Len] at *; omega) | (simp; omega))) | (exact hM.stores_all (by (repeat (first | exact .here _ _ _ | apply Has.there)); done) (ag_of rfl) (by first | assumption | exact Len.map (by assumption) _ | rfl | exact Len.map (by rfl) _ | exact Len.of (by simp; done)) (by first | assumption | exact Len.map (by assumption) _ | rfl | exact Len.map (by rfl) _ | exact Len.of (by simp; done)) (by first | exact B8_one | exact W32_one | exact one_of_all rfl)) | (exact hM.stores_W32 rfl (by (repeat (first | exact .here _ _ _ | apply Has.there)); done) (on_of rfl) (by first | omega | (simp only [Len] at *; omega) | (simp; omega))) | (exact hM.stores_one (by (repeat (first | exact .here _ _ _ | apply Has.there)); done) (on_of rfl) (by first | omega | (simp only [Len] at *; omega) | (simp; omega)) rfl rfl))), ?_⟩; intro _ hM2; clear hM; have hM := hM2; clear hM2) | ((with_reducible refine gL_alloc hM ?_); refine ⟨_, _, (zr_of rfl), ?_⟩; intro _ _ hM2; clear hM; have hM := hM2; clear hM2) | ((with_reducible refine gL_box hM ?_); refine ⟨_, _, _, rfl, rfl, (by first | assumption | exact Len.map (by assumption) _ | rfl | exact Len.map (by rfl) _ | exact Len.of (by simp; done)), ?_⟩; intro _ _ hM2; clear hM; have hM := hM2; clear hM2) | ((with_reducible refine gL_build0 ?_); refine ⟨_, _, _, _, _, _, (zr_of rfl), (ua_of rfl), (ag_of rfl), (el_of rfl), ?_⟩) | ((with_reducible refine gL_buildBytes hM ?_); refine ⟨_, _, (us_of rfl), (el_of rfl), (by decide), (by decide), rfl, (by (repeat (first | exact EvB.nil | apply EvB.cons rfl (by first | exact (rfl : B8 _ = B8 _) | exact lit8 _ (by decide)))); done), ?_⟩; intro _ _ hM2; clear hM; have hM := hM2; clear hM2) | ((with_reducible refine gL_append_B hM ?_); refine ⟨_, _, _, _, _, _, _, _, _, _, rfl, rfl, (by first | exact (rfl : Value.slice (some ⟨_, 0, none⟩) _ _ = sl (some _) _ _) | exact (rfl : Value.slice none _ _ = sl none _ _) | rfl), (us_of rfl), (el_of rfl), (by first | exact hM.src (by (repeat (first | exact .head _ | apply List.Mem.tail)); done) | exact (hM.bytes0 (by assumption)).src), (fun _ _ => by (repeat (first | exact .here _ _ _ | apply Swap.there)); done), (by first | assumption | exact Len.map (by assumption) _ | rfl | exact Len.map (by rfl) _ | exact Len.of (by simp; done)), (by first | assumption | exact Len.map (by assumption) _ | rfl | exact Len.map (by rfl) _ | exact Len.of (by simp; done)), (by first | assumption | (simp [maxLen]; done) | omega | (simp [maxLen]; omega)), (by first | omega | (simp only [Len] at *; omega) | (simp; omega)), ?_⟩; intro _ _ _ hM2 _ _; clear hM; have hM := hM2; clear hM2) | ((first | (with_reducible refine gL_field ?_) | ((with_reducible refine gG_field ?_ ?_); (exact wanted_of rfl rfl rfl rfl rfl))); refine ⟨_, _, rfl, (by (first | (exact field_one (fb_of rfl) rfl) | (exact field_agg (fa_of rfl) rfl))), ?_⟩))
      have hl4 : Len (X ++ [0]) (n + 1) := Len.of (by rw [List.length_append, hl3.eq]; rfl)
      obtain ⟨gq, hgq⟩ := hM.some_of (.tail _ (.head _)) (hl4.map B8) (by omega)
      subst hgq
      go_roundw
      case rel =>
        refine ⟨j + 1, n + 1, gq, cap1, by omega, by have := HN (); omega, rfl, hd2, ?_⟩
        rw [← hX1 ()]
        exact hM.sub (by repeat (first | exact List.nil_sublist _ | apply List.Sublist.cons_cons | apply List.Sublist.cons))
      case measure => have := HN (); simp only [slLen]; omega
    · have h56 : (n : Int) % 64 = 56 := by omega
      have hjz : j = z := by omega
      subst hjz
      have hnb : n ≤ 140737488355200 := by omega
      have HN : ∀ _ : Unit, n = l.length + 1 + j := fun _ => hn
      clear hn hnn hX1 hlt hj
      obtain ⟨u, hu⟩ : ∃ u, u = UInt64.ofNat l.length := ⟨_, rfl⟩
      have hu1 : UInt64.ofInt (l.length : Int) = u := by rw [hu, ofInt64_nat]
      have HB : ∀ k, k < 8 → (Sha.be64 (8 * u)).take (k + 1) = (Sha.be64 (8 * u)).take k ++ [(shr64 (8 * u) (56 - 8 * k)).toUInt8] := fun k hk => by
        rw [List.take_succ_eq_append_getElem (by rw [Sha.be64_len]; exact hk)]
        congr 2
        unfold Sha.be64
        rw [List.getElem_map, List.getElem_range]
      have HF : ∀ _ : Unit, X ++ (Sha.be64 (8 * u)).take 8 = Sha.padded l := fun _ => by
        rw [List.take_of_length_le (by rw [Sha.be64_len]; exact Nat.le_refl _), ← HX (), HZ (), hu, Sha.padded, Sha.ending]
        simp
      have hbl8 : (Sha.be64 (8 * u)).length = 8 := Sha.be64_len _
      clear hu
      go_wp2_with (first | go_skip | ((first | (with_reducible refine gL_load ?_) | ((with_reducible refine gG_load ?_ ?_); (exact wanted_of rfl rfl rfl rfl rfl))); refine ⟨_, _, rfl, (by (first | (assumption) | (exact hM.loads_B8 (by (repeat (first | exact .head _ | apply List.Mem.tail)); done) (on_of rfl) (by first | omega | (simp only [Len] at *; omega) | (simp; omega))) | (exact hM.loads_all (by (repeat (first | exact .head _ | apply List.Mem.tail)); done) (ag_of rfl) (by first | assumption | exact Len.map (by assumption) _ | rfl | exact Len.map (by rfl) _ | exact Len.of (by simp; done))) | (exact hM.loads_one (by (repeat (first | exact .head _ | apply List.Mem.tail)); done) (on_of rfl) rfl) | (exact hM.loads_W32 (by (repeat (first | exact .head _ | apply List.Mem.tail)); done) (on_of rfl) (by first | omega | (simp only [Len] at *; omega) | (simp; omega))) | (exact loads_cell (by assumption) (on_of rfl)))), ?_⟩) | ((with_reducible refine gL_store hM ?_); refine ⟨_, _, _, rfl, rfl, (by (first | (exact hM.stores_B8 (by first | exact (rfl : B8 _ = B8 _) | exact lit8 _ (by decide)) (by (repeat (first | exact .here _ _ _ | apply Has.there)); done) (on_of rfl) (by first | omega | (simp only [Len] at *; omega) | (simp; omega))) | (exact hM.stores_all (by (repeat (first | exact .here _ _ _ | apply Has.there)); done) (ag_of rfl) (by first | assumption | exact Len.map (by assumption) _ | rfl | exact Len.map (by rfl) _ | exact Len.of (by simp; done)) (by first | assumption | exact Len.map (by assumption) _ | rfl | exact Len.map (by rfl) _ | exact Len.of (by simp; done)) (by first | exact B8_one | exact W32_one | exact one_of_all rfl)) | (exact hM.stores_W32 rfl (by (repeat (first | exact .here _ _ _ | apply Has.there)); done) (on_of rfl) (by first | omega | (simp only [Len] at *; omega) | (simp; omega))) | (exact hM.stores_one (by (repeat (first | exact .here _ _ _ | apply Has.there)); done) (on_of rfl) (by first | omega | (simp only [Len] at *; omega) | (simp; omega)) rfl rfl))), ?_⟩; intro _ hM2; clear hM; have hM := hM2; clear hM2) | ((with_reducible refine gL_alloc hM ?_); refine ⟨_, _, (zr_of rfl), ?_⟩; intro _ _ hM2; clear hM; have hM := hM2; clear hM2) | ((with_reducible refine gL_box hM ?_); refine ⟨_, _, _, rfl, rfl, (by first | assumption | exact Len.map (by assumption) _ | rfl | exact Len.map (by rfl) _ | exact Len.of (by simp; done)), ?_⟩; intro _ _ hM2; clear hM; have hM := hM2; clear hM2) | ((with_reducible refine gL_build0 ?_); refine ⟨_, _, _, _, _, _, (zr_of rfl), (ua_of rfl), (ag_of rfl), (el_of rfl), ?_⟩) | ((with_reducible refine gL_buildBytes hM ?_); refine ⟨_, _, (us_of rfl), (el_of rfl), (by decide), (by decide), rfl, (by (repeat (first | exact EvB.nil | apply EvB.cons rfl (by first | exact (rfl : B8 _ = B8 _) | exact lit8 _ (by decide)))); done), ?_⟩; intro _ _ hM2; clear hM; have hM := hM2; clear hM2) | ((with_reducible refine gL_append_B hM ?_); refine ⟨_, _, _, _, _, _, _, _, _, _, rfl, rfl, (by first | exact (rfl : Value.slice (some ⟨_, 0, none⟩) _ _ = sl (some _) _ _) | exact (rfl : Value.slice none _ _ = sl none _ _) | rfl), (us_of rfl), (el_of rfl), (by first | exact hM.src (by (repeat (first | exact .head _ | apply List.Mem.tail)); done) | exact (hM.bytes0 (by assumption)).src), (fun _ _ => by (repeat (first | exact .here _ _ _ | apply Swap.there)); done), (by first | assumption | exact Len.map (by assumption) _ | rfl | exact Len.map (by rfl) _ | exact Len.of (by simp; done)), (by first | assumption | exact Len.map (by assumption) _ | rfl | exact Len.map (by rfl) _ | exact Len.of (by simp; done)), (by first | assumption | (simp [maxLen]; done) | omega | (simp [maxLen]; omega)), (by first | omega | (simp only [Len] at *; omega) | (simp; omega)), ?_⟩; intro _ _ _ hM2 _ _; clear hM; have hM := hM2; clear hM2) | ((first | (with_reducible refine gL_field ?_) | ((with_reducible refine gG_field ?_ ?_); (exact wanted_of rfl rfl rfl rfl rfl))); refine ⟨_, _, rfl, (by (first | (exact field_one (fb_of rfl) rfl) | (exact field_agg (fa_of rfl) rfl))), ?_⟩))
      have hM0 : Mem [] w0 wr [⟨some gp, 5, (X ++ (Sha.be64 (8 * u)).take 0).map B8, cap⟩] := by rw [List.take_zero, List.append_nil]; exact hM
      clear hM
      have hM := hM0
      clear hM0
      generalize Sha.be64 (8 * u) = B at *
      go_loopw [3, 5] (fun p i wr => ∃ (k gp cap : Nat), k ≤ 8 ∧ i = .int .i64 (7 - (k : Int)) ∧ p = .slice (some ⟨gp, 0, none⟩) (n + k) cap ∧ cap ≤ maxLen ∧ Mem [] w0 wr [⟨some gp, 5, (X ++ B.take k).map B8, cap⟩]) (fun _ i _ => (intOf i + 1).toNat)
      case atStart => exact ⟨0, gp, cap, by omega, rfl, rfl, hcap, hM⟩
      case round =>
        clear hM hcap
        obtain ⟨k, gp, cap, hk, rfl, rfl, hcap, hM⟩ := hrel
        have hl5 : Len (X ++ B.take k) (n + k) := Len.of (by simp [hl3.eq, hbl8]; omega)
        by_cases hlk : k < 8
        · have h0 : (0 : Int) ≤ 7 - (k : Int) := by omega
          have hc8 : (8 : Int) * (7 - (k : Int)) = ((56 - 8 * k : Nat) : Int) := by omega
          have hBk := HB k hlk
          have hX1 : ∀ _ : Unit, (X ++ B.take k) ++ [(shr64 (8 * u) (56 - 8 * k)).toUInt8] = X ++ B.take (k + 1) := fun _ => by rw [hBk, List.append_assoc]
          clear hBk HB
          generalize 56 - 8 * k = k56 at *
          go_wp2_with (first | ((with_reducible refine gL_append_B hM ?_); refine ⟨_, _, some gp, n + k, cap, 5, X ++ B.take k, [(shr64 (8 * u) k56).toUInt8], 1, fun ob' cap' => [_, ⟨ob', 5, ((X ++ B.take k) ++ [(shr64 (8 * u) k56).toUInt8]).map B8, cap'⟩], rfl, rfl, rfl, (us_of rfl), (el_of rfl), hM.src (.head _), fun _ _ => .there _ (.here _ _ _), hl5, rfl, hcap, by omega, ?_⟩; intro ob1 cap1 _ hM2 hd1 hd2; clear hM; have hM := hM2; clear hM2) | go_skip | ((first | (with_reducible refine gL_load ?_) | ((with_reducible refine gG_load ?_ ?_); (exact wanted_of rfl rfl rfl rfl rfl))); refine ⟨_, _, rfl, (by (first | (assumption) | (exact hM.loads_B8 (by (repeat (first | exact .head _ | apply List.Mem.tail)); done) (on_of rfl) (by first | omega | (simp only [Len] at *; omega) | (simp; omega))) | (exact hM.loads_all (by (repeat (first | exact .head _ | apply List.Mem.tail)); done) (ag_of rfl) (by first | assumption | exact Len.map (by assumption) _ | rfl | exact Len.map (by rfl) _ | exact Len.of (by simp; done))) | (exact hM.loads_one (by (repeat (first | exact .head _ | apply List.Mem.tail)); done) (on_of rfl) rfl) | (exact hM.loads_W32 (by (repeat (first | exact .head _ | apply List.Mem.tail)); done) (on_of rfl) (by first | omega | (simp only [Len] at *; omega) | (simp; omega))) | (exact loads_cell (by assumption) (on_of rfl)))), ?_⟩) | ((with_reducible refine gL_store hM ?_); refine ⟨_, _, _, rfl, rfl, (by (first | (exact hM.stores_B8 (by first | exact (rfl : B8 _ = B8 _) | exact lit8 _ (by decide)) (by (repeat (first | exact .here _ _ _ | apply Has.there)); done) (on_of rfl) (by first | omega | (simp only [Len] at *; omega) | (simp; omega))) | (exact hM.stores_all (by (repeat (first | exact .here _ _ _ | apply Has.there)); done) (ag_of rfl) (by first | assumption | exact Len.map (by assumption) _ | rfl | exact Len.map (by rfl) _ | exact Len.of (by simp; done)) (by first | assumption | exact Len.map (by assumption) _ | rfl | exact Len.map (by rfl) _ | exact Len.of (by simp; done)) (by first | exact B8_one | exact W32_one | exact one_of_all rfl)) | (exact hM.stores_W32 rfl (by (repeat (first | exact .here _ _ _ | apply Has.there)); done) (on_of rfl) (by first | omega | (simp only [Len] at *; omega) | (simp; omega))) | (exact hM.stores_one (by (repeat (first | exact .here _ _ _ | apply Has.there)); done) (on_of rfl) (by first | omega | (simp only [Len] at *; omega) | (simp; omega)) rfl rfl))), ?_⟩; intro _ hM2; clear hM; have hM := hM2; clear hM2) | ((with_reducible refine gL_alloc hM ?_); refine ⟨_, _, (zr_of rfl), ?_⟩; intro _ _ hM2; clear hM; have hM := hM2; clear hM2) | ((with_reducible refine gL_box hM ?_); refine ⟨_, _, _, rfl, rfl, (by first | assumption | exact Len.map (by assumption) _ | rfl | exact Len.map (by rfl) _ | exact Len.of (by simp; done)), ?_⟩; intro _ _ hM2; clear hM; have hM := hM2; clear hM2) | ((with_reducible refine gL_build0 ?_); refine ⟨_, _, _, _, _, _, (zr_of rfl), (ua_of rfl), (ag_of rfl), (el_of rfl), ?_⟩) | ((with_reducible refine gL_buildBytes hM ?_); refine ⟨_, _, (us_of rfl), (el_of rfl), (by decide), (by decide), rfl, (by (repeat (first | exact EvB.nil | apply EvB.cons rfl (by first | exact (rfl : B8 _ = B8 _) | exact lit8 _ (by decide)))); done), ?_⟩; intro _ _ hM2; clear hM; have hM := hM2; clear hM2) | ((with_reducible refine gL_append_B hM ?_); refine ⟨_, _, _, _, _, _, _, _, _, _, rfl, rfl, (by first | exact (rfl : Value.slice (some ⟨_, 0, none⟩) _ _ = sl (some _) _ _) | exact (rfl : Value.slice none _ _ = sl none _ _) | rfl), (us_of rfl), (el_of rfl), (by first | exact hM.src (by (repeat (first | exact .head _ | apply List.Mem.tail)); done) | exact (hM.bytes0 (by assumption)).src), (fun _ _ => by (repeat (first | exact .here _ _ _ | apply Swap.there)); done), (by first | assumption | exact Len.map (by assumption) _ | rfl | exact Len.map (by rfl) _ | exact Len.of (by simp; done)), (by first | assumption | exact Len.map (by assumption) _ | rfl | exact Len.map (by rfl) _ | exact Len.of (by simp; done)), (by first | assumption | (simp [maxLen]; done) | omega | (simp [maxLen]; omega)), (by first | omega | (simp only [Len] at *; omega) | (simp; omega)), ?_⟩; intro _ _ _ hM2 _ _; clear hM; have hM := hM2; clear hM2) | ((first | (with_reducible refine gL_field ?_) | ((with_reducible refine gG_field ?_ ?_); (exact wanted_of rfl rfl rfl rfl rfl))); refine ⟨_, _, rfl, (by (first | (exact field_one (fb_of rfl) rfl) | (exact field_agg (fa_of rfl) rfl))), ?_⟩))
          have hl6 : Len (X ++ B.take k ++ [(shr64 (8 * u) k56).toUInt8]) (n + k + 1) := Len.of (by rw [List.length_append, hl5.eq]; rfl)
          obtain ⟨gq, hgq⟩ := hM.some_of (.tail _ (.head _)) (hl6.map B8) (by omega)
          have hM1 := hM.drop
          rw [hX1 ()] at hM1
          refine ⟨⟨k + 1, by omega, by omega, gq, cap1, ⟨hgq, by omega, rfl⟩, hd2, ?_⟩, ?_⟩
          · rw [hgq, List.map_append, List.map_take] at hM1
            exact hM1
          · simp only [intOf]; omega
        · have : k = 8 := by omega
          subst this
          rw [HF ()] at hM hl5
          have h0 : ¬ (0 : Int) ≤ 7 - ((8 : Nat) : Int) := by omega
          go_wp2_with (first | go_skip | ((first | (with_reducible refine gL_load ?_) | ((with_reducible refine gG_load ?_ ?_); (exact wanted_of rfl rfl rfl rfl rfl))); refine ⟨_, _, rfl, (by (first | (assumption) | (exact hM.loads_B8 (by (repeat (first | exact .head _ | apply List.Mem.tail)); done) (on_of rfl) (by first | omega | (simp only [Len] at *; omega) | (simp; omega))) | (exact hM.loads_all (by (repeat (first | exact .head _ | apply List.Mem.tail)); done) (ag_of rfl) (by first | assumption | exact Len.map (by assumption) _ | rfl | exact Len.map (by rfl) _ | exact Len.of (by simp; done))) | (exact hM.loads_one (by (repeat (first | exact .head _ | apply List.Mem.tail)); done) (on_of rfl) rfl) | (exact hM.loads_W32 (by (repeat (first | exact .head _ | apply List.Mem.tail)); done) (on_of rfl) (by first | omega | (simp only [Len] at *; omega) | (simp; omega))) | (exact loads_cell (by assumption) (on_of rfl)))), ?_⟩) | ((with_reducible refine gL_store hM ?_); refine ⟨_, _, _, rfl, rfl, (by (first | (exact hM.stores_B8 (by first | exact (rfl : B8 _ = B8 _) | exact lit8 _ (by decide)) (by (repeat (first | exact .here _ _ _ | apply Has.there)); done) (on_of rfl) (by first | omega | (simp only [Len] at *; omega) | (simp; omega))) | (exact hM.stores_all (by (repeat (first | exact .here _ _ _ | apply Has.there)); done) (ag_of rfl) (by first | assumption | exact Len.map (by assumption) _ | rfl | exact Len.map (by rfl) _ | exact Len.of (by simp; done)) (by first | assumption | exact Len.map (by assumption) _ | rfl | exact Len.map (by rfl) _ | exact Len.of (by simp; done)) (by first | exact B8_one | exact W32_one | exact one_of_all rfl)) | (exact hM.stores_W32 rfl (by (repeat (first | exact .here _ _ _ | apply Has.there)); done) (on_of rfl) (by first | omega | (simp only [Len] at *; omega) | (simp; omega))) | (exact hM.stores_one (by (repeat (first | exact .here _ _ _ | apply Has.there)); done) (on_of rfl) (by first | omega | (simp only [Len] at *; omega) | (simp; omega)) rfl rfl))), ?_⟩; intro _ hM2; clear hM; have hM := hM2; clear hM2) | ((with_reducible refine gL_alloc hM ?_); refine ⟨_, _, (zr_of rfl), ?_⟩; intro _ _ hM2; clear hM; have hM := hM2; clear hM2) | ((with_reducible refine gL_box hM ?_); refine ⟨_, _, _, rfl, rfl, (by first | assumption | exact Len.map (by assumption) _ | rfl | exact Len.map (by rfl) _ | exact Len.of (by simp; done)), ?_⟩; intro _ _ hM2; clear hM; have hM := hM2; clear hM2) | ((with_reducible refine gL_build0 ?_); refine ⟨_, _, _, _, _, _, (zr_of rfl), (ua_of rfl), (ag_of rfl), (el_of rfl), ?_⟩) | ((with_reducible refine gL_buildBytes hM ?_); refine ⟨_, _, (us_of rfl), (el_of rfl), (by decide), (by decide), rfl, (by (repeat (first | exact EvB.nil | apply EvB.cons rfl (by first | exact (rfl : B8 _ = B8 _) | exact lit8 _ (by decide)))); done), ?_⟩; intro _ _ hM2; clear hM; have hM := hM2; clear hM2) | ((with_reducible refine gL_append_B hM ?_); refine ⟨_, _, _, _, _, _, _, _, _, _, rfl, rfl, (by first | exact (rfl : Value.slice (some ⟨_, 0, none⟩) _ _ = sl (some _) _ _) | exact (rfl : Value.slice none _ _ = sl none _ _) | rfl), (us_of rfl), (el_of rfl), (by first | exact hM.src (by (repeat (first | exact .head _ | apply List.Mem.tail)); done) | exact (hM.bytes0 (by assumption)).src), (fun _ _ => by (repeat (first | exact .here _ _ _ | apply Swap.there)); done), (by first | assumption | exact Len.map (by assumption) _ | rfl | exact Len.map (by rfl) _ | exact Len.of (by simp; done)), (by first | assumption | exact Len.map (by assumption) _ | rfl | exact Len.map (by rfl) _ | exact Len.of (by simp; done)), (by first | assumption | (simp [maxLen]; done) | omega | (simp [maxLen]; omega)), (by first | omega | (simp only [Len] at *; omega) | (simp; omega)), ?_⟩; intro _ _ _ hM2 _ _; clear hM; have hM := hM2; clear hM2) | ((first | (with_reducible refine gL_field ?_) | ((with_reducible refine gG_field ?_ ?_); (exact wanted_of rfl rfl rfl rfl rfl))); refine ⟨_, _, rfl, (by (first | (exact field_one (fb_of rfl) rfl) | (exact field_agg (fa_of rfl) rfl))), ?_⟩))
          go_ret
          exact ⟨gp, n + 8, cap, rfl, hl5, hcap, hM⟩
end Go.Proofs.YtejmbkljnhnklaaDoor
namespace Go.Proofs.YtejmbkljnhnklaaDoor
open Go.RowKit Go.PK
set_option maxRecDepth 100000 in
set_option maxHeartbeats 4000000 in
theorem ref02_Of (w0 : World) (v : Value) (l : List UInt8) (hv : Bytes w0 v l) (hlen : l.length ≤ 140737488355000) :
    Calls Tryd.prog 38 #[v] w0 fun e w' => e = .returned (.agg ((Sha.of l).map B8).toArray) ∧ Below w0.heap.size w0 w' := by
  obtain ⟨O, hO⟩ : ∃ O, O = Sha.of l := ⟨_, rfl⟩
  have hol : Len O 32 := by rw [hO]; exact Len.of (Sha.of_len l)
  rw [← hO]
  have HOm : ∀ _ : Unit, O = Sha.of l := fun _ => hO
  clear hO
  have hM := Mem.start w0
  have hb8 : Len (Sha.begins.map W32) 8 := rfl
  go_enter Tryd.func38, Tryd.ntmps38
  go_wp2_with (first | ((first | ((with_reducible refine gL_alloc (dst := some 2) hM ?_); refine ⟨_, _, (zr_of rfl), ?_⟩) | ((with_reducible refine gL_box (dst := some 2) hM ?_); refine ⟨_, _, _, rfl, rfl, (by first | assumption | exact Len.map (by assumption) _ | rfl | exact Len.map (by rfl) _ | exact Len.of (by simp; done) | exact W32_len (by assumption) | exact Len.map (W32_len (by assumption)) _), ?_⟩)); intro g2 _ hM2; clear hM; have hM := hM2; clear hM2) | (go_at_call 48; have hvw := hM.bytes0 hv; (with_reducible refine (ref02_padded _ _ l hvw hlen).mono ?_); clear hvw; rintro _ _ ⟨gp, n, cap, rfl, hpl, hcap, hM3⟩; replace hM := hM.addNew hM3.done (hM3.holds _ (.head _)) (hM3.mem_new (.head _)); clear hM3) |
    ((first | ((with_reducible refine gL_alloc (dst := some 4) hM ?_); refine ⟨_, _, (zr_of rfl), ?_⟩) | ((with_reducible refine gL_box (dst := some 4) hM ?_); refine ⟨_, _, _, rfl, rfl, (by first | assumption | exact Len.map (by assumption) _ | rfl | exact Len.map (by rfl) _ | exact Len.of (by simp; done) | exact W32_len (by assumption) | exact Len.map (W32_len (by assumption)) _), ?_⟩)); intro g4 _ hM2; clear hM; have hM := hM2; clear hM2) | ((first | ((with_reducible refine gL_alloc (dst := some 5) hM ?_); refine ⟨_, _, (zr_of rfl), ?_⟩) | ((with_reducible refine gL_box (dst := some 5) hM ?_); refine ⟨_, _, _, rfl, rfl, (by first | assumption | exact Len.map (by assumption) _ | rfl | exact Len.map (by rfl) _ | exact Len.of (by simp; done) | exact W32_len (by assumption) | exact Len.map (W32_len (by assumption)) _), ?_⟩)); intro g5 _ hM2; clear hM; have hM := hM2; clear hM2) | (go_at_call 49; (with_reducible refine (ref02_begins _).mono ?_); rintro _ _ ⟨rfl, B1⟩; replace hM := hM.adds B1; clear B1) | (go_at_call 50; (with_reducible refine (ref02_rounds _).mono ?_); rintro _ _ ⟨rfl, B1⟩; replace hM := hM.adds B1; clear B1) | go_skip | ((first | (with_reducible refine gL_load ?_) | ((with_reducible refine gG_load ?_ ?_); (exact wanted_of rfl rfl rfl rfl rfl))); refine ⟨_, _, rfl, (by (first | (assumption) | (exact hM.loads_B8 (by (repeat (first | exact .head _ | apply List.Mem.tail)); done) (on_of rfl) (by first | omega | (simp only [Len] at *; omega) | (simp; omega))) | (exact hM.loads_all (by (repeat (first | exact .head _ | apply List.Mem.tail)); done) (ag_of rfl) (by first | assumption | exact Len.map (by assumption) _ | rfl | exact Len.map (by rfl) _ | exact Len.of (by simp; done) | exact W32_len (by assumption) | exact Len.map (W32_len (by assumption)) _)) | (exact hM.loads_one (by (repeat (first | exact .head _ | apply List.Mem.tail)); done) (on_of rfl) rfl) | (exact hM.loads_W32 (by (repeat (first | exact .head _ | apply List.Mem.tail)); done) (on_of rfl) (by first | omega | (simp only [Len] at *; omega) | (simp; omega))) | (exact loads_cell (by assumption) (on_of rfl)))), ?_⟩) | ((with_reducible refine gL_store hM ?_); refine ⟨_, _, _, rfl, rfl, (by (first | (exact hM.stores_all (by (repeat (first | exact .here _ _ _ | apply Has.there)); done) (ag_of rfl) ks_w32 (by rfl) W32_one) | (exact hM.stores_B8 (by first | exact (rfl : B8 _ = B8 _) | exact lit8 _ (by decide)) (by (repeat (first | exact .here _ _ _ | apply Has.there)); done) (on_of rfl) (by first | omega | (simp only [Len] at *; omega) | (simp; omega))) | (exact hM.stores_all (by (repeat (first | exact .here _ _ _ | apply Has.there)); done) (ag_of rfl) (by first | assumption | exact Len.map (by assumption) _ | rfl | exact Len.map (by rfl) _ | exact Len.of (by simp; done) | exact W32_len (by assumption) | exact Len.map (W32_len (by assumption)) _) (by first | assumption | exact Len.map (by assumption) _ | rfl | exact Len.map (by rfl) _ | exact Len.of (by simp; done) | exact W32_len (by assumption) | exact Len.map (W32_len (by assumption)) _) (by first | exact B8_one | exact W32_one | exact one_of_all rfl)) | (exact hM.stores_W32 rfl (by (repeat (first | exact .here _ _ _ | apply Has.there)); done) (on_of rfl) (by first | omega | (simp only [Len] at *; omega) | (simp; omega))) | (exact hM.stores_one (by (repeat (first | exact .here _ _ _ | apply Has.there)); done) (on_of rfl) (by first | omega | (simp only [Len] at *; omega) | (simp; omega)) rfl rfl))), ?_⟩; intro _ hM2; clear hM; have hM := hM2; clear hM2) | ((with_reducible refine gL_alloc hM ?_); refine ⟨_, _, (zr_of rfl), ?_⟩; intro _ _ hM2; clear hM; have hM := hM2; clear hM2) | ((with_reducible refine gL_box hM ?_); refine ⟨_, _, _, rfl, rfl, (by first | assumption | exact Len.map (by assumption) _ | rfl | exact Len.map (by rfl) _ | exact Len.of (by simp; done) | exact W32_len (by assumption) | exact Len.map (W32_len (by assumption)) _), ?_⟩; intro _ _ hM2; clear hM; have hM := hM2; clear hM2) | ((with_reducible refine gL_build0 ?_); refine ⟨_, _, _, _, _, _, (zr_of rfl), (ua_of rfl), (ag_of rfl), (el_of rfl), ?_⟩) | ((with_reducible refine gL_buildBytes hM ?_); refine ⟨_, _, (us_of rfl), (el_of rfl), (by decide), (by decide), rfl, (by (repeat (first | exact EvB.nil | apply EvB.cons rfl (by first | exact (rfl : B8 _ = B8 _) | exact lit8 _ (by decide)))); done), ?_⟩; intro _ _ hM2; clear hM; have hM := hM2; clear hM2) | ((with_reducible refine gL_append_B hM ?_); refine ⟨_, _, _, _, _, _, _, _, _, _, rfl, rfl, (by first | exact (rfl : Value.slice (some ⟨_, 0, none⟩) _ _ = sl (some _) _ _) | exact (rfl : Value.slice none _ _ = sl none _ _) | rfl), (us_of rfl), (el_of rfl), (by first | exact hM.src (by (repeat (first | exact .head _ | apply List.Mem.tail)); done) | exact (hM.bytes0 (by assumption)).src), (fun _ _ => by (repeat (first | exact .here _ _ _ | apply Swap.there)); done), (by first | assumption | exact Len.map (by assumption) _ | rfl | exact Len.map (by rfl) _ | exact Len.of (by simp; done) | exact W32_len (by assumption) | exact Len.map (W32_len (by assumption)) _), (by first | assumption | exact Len.map (by assumption) _ | rfl | exact Len.map (by rfl) _ | exact Len.of (by simp; done) | exact W32_len (by assumption) | exact Len.map (W32_len (by assumption)) _), (by first | assumption | (simp [maxLen]; done) | omega | (simp [maxLen]; omega)), (by first | omega | (simp only [Len] at *; omega) | (simp; omega)), ?_⟩; intro _ _ _ hM2 _ _; clear hM; have hM := hM2; clear hM2) | ((first | (with_reducible refine gL_field ?_) | ((with_reducible refine gG_field ?_ ?_); (exact wanted_of rfl rfl rfl rfl rfl))); refine ⟨_, _, rfl, (by (first | (exact field_one (fb_of rfl) rfl) | (exact field_agg (fa_of rfl) rfl))), ?_⟩))
  have hn64 : n = 64 * ((Sha.padded l).length / 64) := by rw [← hpl.eq]; exact Sha.padded_len l
  have HF : ∀ _ : Unit, Sha.out (Sha.run (Sha.padded l) ((Sha.padded l).length / 64)) = O := fun _ => by rw [HOm ()]; rfl
  have hnq : n / 64 = (Sha.padded l).length / 64 := by rw [hpl.eq]
  rw [← hnq] at hn64 HF
  clear hnq
  have HN64 : ∀ _ : Unit, n = 64 * (n / 64) := fun _ => hn64
  clear hn64
  have hnb : n ≤ 140737488355200 := by
    have h1 := hpl.eq
    rw [Sha.padded, List.length_append, Sha.ending_len] at h1
    have := Sha.zeros_lt l.length
    omega
  have hR0 : ∀ _ : Unit, Sha.begins = Sha.run (Sha.padded l) 0 := fun _ => rfl
  rw [hR0 ()] at hM
  clear hR0 hb8
  generalize Sha.padded l = PP at *
  obtain ⟨KS, hKS⟩ : ∃ KS, KS = Sha.ks := ⟨_, rfl⟩
  rw [← hKS] at hM
  have HK : ∀ _ : Unit, KS = Sha.ks := fun _ => hKS
  have hkl : Len (KS.map W32) 64 := by rw [hKS]; exact ks_w32
  clear hKS
  go_loopw [6] (fun i wr => ∃ q : Nat, 64 * q ≤ n ∧ i = .int .i64 ((64 * q : Nat) : Int) ∧ Mem [] w0 wr [⟨some g5, 86, KS.map W32, 64⟩, ⟨some g4, 85, (Sha.run PP q).map W32, 8⟩, ⟨some gp, 5, PP.map B8, cap⟩, ⟨some g2, 25, (List.replicate 32 (0 : UInt8)).map B8, 32⟩]) (fun i _ => n - (intOf i).toNat)
  case atStart => exact ⟨0, by omega, rfl, hM.sub (by repeat (first | exact List.nil_sublist _ | apply List.Sublist.cons_cons | apply List.Sublist.cons))⟩
  case round =>
    clear hM
    obtain ⟨q, hq, rfl, hM⟩ := hrel
    obtain ⟨a64, ha64⟩ : ∃ a64, a64 = 64 * q := ⟨_, rfl⟩
    rw [← ha64] at hq ⊢
    have HA : ∀ _ : Unit, a64 = 64 * q := fun _ => ha64
    have hrl := Sha.run_len PP q
    have HS : ∀ _ : Unit, Sha.run PP (q + 1) = Sha.piece (Sha.run PP q) ((PP.drop a64).take 64) := fun _ => by rw [ha64]; rfl
    by_cases hlt : a64 < n
    · have hti : (a64 : Int) < (n : Int) := by omega
      have hsub : a64 + 64 ≤ n := by have := HN64 (); omega
      have hcapn : n ≤ cap := by
        obtain ⟨J, -, hJ⟩ := hM.holds _ (.tail _ (.tail _ (.head _)))
        simp only [List.length_map] at hJ
        have := hpl.eq
        omega
      clear ha64
      generalize Sha.run PP q = R at *
      have hRl : Len (R.map W32) 8 := W32_len hrl
      have hpc : ∀ w v mm, Bytes w v mm → mm.length = 64 → Calls Tryd.prog 51 #[.agg (R.map W32).toArray, v, .agg (KS.map W32).toArray] w fun e w' => e = .returned (.agg ((Sha.piece R mm).map W32).toArray) ∧ Below w.heap.size w w' := fun w v mm h1 h2 => by
        rw [HK ()]
        exact ref02_piece w R hrl v mm h1 h2
      go_wp2_with (first | go_skip | ((first | (with_reducible refine gL_load ?_) | ((with_reducible refine gG_load ?_ ?_); (exact wanted_of rfl rfl rfl rfl rfl))); refine ⟨_, _, rfl, (by (first | (assumption) | (exact hM.loads_B8 (by (repeat (first | exact .head _ | apply List.Mem.tail)); done) (on_of rfl) (by first | omega | (simp only [Len] at *; omega) | (simp; omega))) | (exact hM.loads_all (by (repeat (first | exact .head _ | apply List.Mem.tail)); done) (ag_of rfl) (by first | assumption | exact Len.map (by assumption) _ | rfl | exact Len.map (by rfl) _ | exact Len.of (by simp; done) | exact W32_len (by assumption) | exact Len.map (W32_len (by assumption)) _)) | (exact hM.loads_one (by (repeat (first | exact .head _ | apply List.Mem.tail)); done) (on_of rfl) rfl) | (exact hM.loads_W32 (by (repeat (first | exact .head _ | apply List.Mem.tail)); done) (on_of rfl) (by first | omega | (simp only [Len] at *; omega) | (simp; omega))) | (exact loads_cell (by assumption) (on_of rfl)))), ?_⟩) | ((with_reducible refine gL_store hM ?_); refine ⟨_, _, _, rfl, rfl, (by (first | (exact hM.stores_all (by (repeat (first | exact .here _ _ _ | apply Has.there)); done) (ag_of rfl) ks_w32 (by rfl) W32_one) | (exact hM.stores_B8 (by first | exact (rfl : B8 _ = B8 _) | exact lit8 _ (by decide)) (by (repeat (first | exact .here _ _ _ | apply Has.there)); done) (on_of rfl) (by first | omega | (simp only [Len] at *; omega) | (simp; omega))) | (exact hM.stores_all (by (repeat (first | exact .here _ _ _ | apply Has.there)); done) (ag_of rfl) (by first | assumption | exact Len.map (by assumption) _ | rfl | exact Len.map (by rfl) _ | exact Len.of (by simp; done) | exact W32_len (by assumption) | exact Len.map (W32_len (by assumption)) _) (by first | assumption | exact Len.map (by assumption) _ | rfl | exact Len.map (by rfl) _ | exact Len.of (by simp; done) | exact W32_len (by assumption) | exact Len.map (W32_len (by assumption)) _) (by first | exact B8_one | exact W32_one | exact one_of_all rfl)) | (exact hM.stores_W32 rfl (by (repeat (first | exact .here _ _ _ | apply Has.there)); done) (on_of rfl) (by first | omega | (simp only [Len] at *; omega) | (simp; omega))) | (exact hM.stores_one (by (repeat (first | exact .here _ _ _ | apply Has.there)); done) (on_of rfl) (by first | omega | (simp only [Len] at *; omega) | (simp; omega)) rfl rfl))), ?_⟩; intro _ hM2; clear hM; have hM := hM2; clear hM2) | ((with_reducible refine gL_alloc hM ?_); refine ⟨_, _, (zr_of rfl), ?_⟩; intro _ _ hM2; clear hM; have hM := hM2; clear hM2) | ((with_reducible refine gL_box hM ?_); refine ⟨_, _, _, rfl, rfl, (by first | assumption | exact Len.map (by assumption) _ | rfl | exact Len.map (by rfl) _ | exact Len.of (by simp; done) | exact W32_len (by assumption) | exact Len.map (W32_len (by assumption)) _), ?_⟩; intro _ _ hM2; clear hM; have hM := hM2; clear hM2) | ((with_reducible refine gL_build0 ?_); refine ⟨_, _, _, _, _, _, (zr_of rfl), (ua_of rfl), (ag_of rfl), (el_of rfl), ?_⟩) | ((with_reducible refine gL_buildBytes hM ?_); refine ⟨_, _, (us_of rfl), (el_of rfl), (by decide), (by decide), rfl, (by (repeat (first | exact EvB.nil | apply EvB.cons rfl (by first | exact (rfl : B8 _ = B8 _) | exact lit8 _ (by decide)))); done), ?_⟩; intro _ _ hM2; clear hM; have hM := hM2; clear hM2) | ((with_reducible refine gL_append_B hM ?_); refine ⟨_, _, _, _, _, _, _, _, _, _, rfl, rfl, (by first | exact (rfl : Value.slice (some ⟨_, 0, none⟩) _ _ = sl (some _) _ _) | exact (rfl : Value.slice none _ _ = sl none _ _) | rfl), (us_of rfl), (el_of rfl), (by first | exact hM.src (by (repeat (first | exact .head _ | apply List.Mem.tail)); done) | exact (hM.bytes0 (by assumption)).src), (fun _ _ => by (repeat (first | exact .here _ _ _ | apply Swap.there)); done), (by first | assumption | exact Len.map (by assumption) _ | rfl | exact Len.map (by rfl) _ | exact Len.of (by simp; done) | exact W32_len (by assumption) | exact Len.map (W32_len (by assumption)) _), (by first | assumption | exact Len.map (by assumption) _ | rfl | exact Len.map (by rfl) _ | exact Len.of (by simp; done) | exact W32_len (by assumption) | exact Len.map (W32_len (by assumption)) _), (by first | assumption | (simp [maxLen]; done) | omega | (simp [maxLen]; omega)), (by first | omega | (simp only [Len] at *; omega) | (simp; omega)), ?_⟩; intro _ _ _ hM2 _ _; clear hM; have hM := hM2; clear hM2) | ((first | (with_reducible refine gL_field ?_) | ((with_reducible refine gG_field ?_ ?_); (exact wanted_of rfl rfl rfl rfl rfl))); refine ⟨_, _, rfl, (by (first | (exact field_one (fb_of rfl) rfl) | (exact field_agg (fa_of rfl) rfl))), ?_⟩))
      try simp only [Act.put, List.setIfInBounds_toArray, List.set_cons_succ, List.set_cons_zero]
      refine wp_region_tail 8 (by decide) (fun c vals => ⟨#[c 0, c 1, c 2, (Value.slice (some ⟨gp, 0, none⟩) n cap : Value), (Value.pointer (some ⟨g4, 0, none⟩) : Value), (Value.pointer (some ⟨g5, 0, none⟩) : Value), (Value.int .i64 ((a64 : Nat) : Int) : Value), c 7, c 8, c 9, c 10, c 11, c 12, c 13, c 14, c 15, c 16, c 17, c 18, vals 0, vals 1, vals 2, vals 3, vals 4, vals 5, vals 6, vals 7, c 27, c 28, c 29, c 30, c 31, c 32, c 33, c 34, c 35, c 36, c 37, c 38, c 39, c 40, c 41, c 42, c 43, c 44], []⟩) (fun t => [_, _, _, undef, undef, undef, undef, _, _, _, _, _, _, _, _, _, _, _, _, undef, undef, undef, undef, undef, undef, undef, undef, _, _, _, _, _, _, _, _, _, _, _, _, _, _, _, _, _, _].getD t undef) (fun i => [_, _, _, _, _, _, _, _].getD i undef) (by kernel_rfl)
        [[], [], [], [], [3], [1, 2, 3, 4], [], [0, 1, 2, 3, 4, 5, 6], [0, 1, 2, 3, 4, 5, 6, 7]] (by kernel_rfl) (by kernel_rfl) (fun _ => True) trivial
        [fun x _ => x = (Value.agg (R.map W32).toArray : Value),
         fun x _ => x = (Value.slice (some ⟨gp, 0, none⟩) n cap : Value),
         fun x _ => x = (Value.int .i64 ((a64 : Nat) : Int) : Value),
         fun x _ => x = (Value.int .i64 ((a64 : Nat) : Int) : Value),
         fun x _ => x = (Value.int .i64 ((a64 + 64 : Nat) : Int) : Value),
         fun x _ => x = (Value.slice (some ⟨gp, a64, none⟩) 64 (cap - a64) : Value),
         fun x _ => x = (Value.agg (KS.map W32).toArray : Value),
         fun x _ => x = (Value.agg ((Sha.piece R ((PP.drop a64).take 64)).map W32).toArray : Value)]
        ⟨fun _ _ _ h _ => h, fun _ _ _ h _ => h, fun _ _ _ h _ => h, fun _ _ _ h _ => h, fun _ _ _ h _ => h, fun _ _ _ h _ => h, fun _ _ _ h _ => h, fun _ _ _ h _ => h, trivial⟩ []
        ⟨?_, ?_, ?_, ?_, ?_, ?_, ?_, ?_, trivial⟩ ?_
      · refine showA_op 0 (by intro _ _ _; kernel_rfl) rfl rfl (fun c vals w hC hD => ?_)
        clear hD
        refine makes1 (x := .tmp 4) (X := Value.pointer (some ⟨g4, 0, none⟩)) (by kernel_rfl : _ = (Value.pointer (some ⟨g4, 0, none⟩) : Value)) (fun ρ rc rf q4 => ?_)
        exact makes_load ((hM.adds hC).loads_all (by (repeat (first | exact .head _ | apply List.Mem.tail)); done) (ag_of rfl) hRl) rfl q4 ⟨Adds.refl _, rfl⟩
      · refine showA_op 1 (by intro _ _ _; kernel_rfl) rfl rfl (fun c vals w hC hD => ?_)
        clear hD
        refine makes1 (x := .tmp 3) (X := Value.slice (some ⟨gp, 0, none⟩) n cap) (by kernel_rfl : _ = (Value.slice (some ⟨gp, 0, none⟩) n cap : Value)) (fun ρ rc rf q3 => ?_)
        exact makes_move (.inl rfl) q3 ⟨Adds.refl _, rfl⟩
      · refine showA_op 2 (by intro _ _ _; kernel_rfl) rfl rfl (fun c vals w hC hD => ?_)
        clear hD
        refine makes1 (x := .tmp 6) (X := Value.int .i64 ((a64 : Nat) : Int)) (by kernel_rfl : _ = (Value.int .i64 ((a64 : Nat) : Int) : Value)) (fun ρ rc rf q6 => ?_)
        exact makes_move (.inl rfl) q6 ⟨Adds.refl _, rfl⟩
      · refine showA_op 3 (by intro _ _ _; kernel_rfl) rfl rfl (fun c vals w hC hD => ?_)
        clear hD
        refine makes1 (x := .tmp 6) (X := Value.int .i64 ((a64 : Nat) : Int)) (by kernel_rfl : _ = (Value.int .i64 ((a64 : Nat) : Int) : Value)) (fun ρ rc rf q6 => ?_)
        exact makes_move (.inl rfl) q6 ⟨Adds.refl _, rfl⟩
      · refine showA_op 4 (by intro _ _ _; kernel_rfl) rfl rfl (fun c vals w hC hD => ?_)
        have h3 : vals 3 = .int .i64 ((a64 : Nat) : Int) := hD 3 rfl
        clear hD
        refine makes1 (x := .tmp 22) (X := Value.int .i64 ((a64 : Nat) : Int)) ((by kernel_rfl : _ = vals 3).trans h3) (fun ρ rc rf q22 => ?_)
        clear h3
        refine makes_value (v := Value.int .i64 ((a64 + 64 : Nat) : Int)) ?_ ⟨Adds.refl _, rfl⟩
        go_simp
        all_goals first | done | rfl | (rw [if_pos (by omega)]; refine congrArg (fun x => Result.ok (Next.value (Value.pointer (some ⟨_, x, none⟩))) _) ?_; omega) | (rw [wrapP_i64]; omega) | go_num | (simp; done) | (simp; omega) | (congr 1; first | rfl | (rw [wrapP_i64]; omega) | (congr 1; first | rfl | (simp; done) | (simp; omega) | (congr 2; omega) | go_num))
      · refine showA_op 5 (by intro _ _ _; kernel_rfl) rfl rfl (fun c vals w hC hD => ?_)
        have h1 : vals 1 = .slice (some ⟨gp, 0, none⟩) n cap := hD 1 rfl
        have h2 : vals 2 = .int .i64 ((a64 : Nat) : Int) := hD 2 rfl
        have h4 : vals 4 = .int .i64 ((a64 + 64 : Nat) : Int) := hD 4 rfl
        clear hD
        refine makes3 (x := .tmp 20) (X := Value.slice (some ⟨gp, 0, none⟩) n cap) (y := .tmp 21) (Y := Value.int .i64 ((a64 : Nat) : Int)) (z := .tmp 23) (Z := Value.int .i64 ((a64 + 64 : Nat) : Int)) ((by kernel_rfl : _ = vals 1).trans h1) ((by kernel_rfl : _ = vals 2).trans h2) ((by kernel_rfl : _ = vals 4).trans h4) (fun ρ rc rf q20 q21 q23 => ?_)
        clear h1 h2 h4
        (refine makes_value (v := .slice (some ⟨gp, a64, none⟩) 64 (cap - a64)) ?_ ⟨Adds.refl _, rfl⟩; go_simp; rw [if_pos (by omega), if_pos (by omega), if_neg (by omega), show ((a64 : Int) + 64).toNat - a64 = 64 from by omega])
      · refine showA_op 6 (by intro _ _ _; kernel_rfl) rfl rfl (fun c vals w hC hD => ?_)
        clear hD
        refine makes1 (x := .tmp 5) (X := Value.pointer (some ⟨g5, 0, none⟩)) (by kernel_rfl : _ = (Value.pointer (some ⟨g5, 0, none⟩) : Value)) (fun ρ rc rf q5 => ?_)
        exact makes_load ((hM.adds hC).loads_all (by (repeat (first | exact .head _ | apply List.Mem.tail)); done) (ag_of rfl) hkl) rfl q5 ⟨Adds.refl _, rfl⟩
      · refine showA_op 7 (by intro _ _ _; kernel_rfl) rfl rfl (fun c vals w hC hD => ?_)
        have h0 : vals 0 = .agg (R.map W32).toArray := hD 0 rfl
        have h5 : vals 5 = .slice (some ⟨gp, a64, none⟩) 64 (cap - a64) := hD 5 rfl
        have h6 : vals 6 = .agg (KS.map W32).toArray := hD 6 rfl
        clear hD
        refine makes3 (x := .tmp 19) (X := Value.agg (R.map W32).toArray) (y := .tmp 24) (Y := Value.slice (some ⟨gp, a64, none⟩) 64 (cap - a64)) (z := .tmp 25) (Z := Value.agg (KS.map W32).toArray) ((by kernel_rfl : _ = vals 0).trans h0) ((by kernel_rfl : _ = vals 5).trans h5) ((by kernel_rfl : _ = vals 6).trans h6) (fun ρ rc rf q19 q24 q25 => ?_)
        clear h0 h5 h6
        refine makes_call (hpc _ (.slice (some ⟨gp, a64, none⟩) 64 (cap - a64)) ((PP.drop a64).take 64) ((hM.adds hC).part' (by (repeat (first | exact .head _ | apply List.Mem.tail)); done) (by rw [hpl.eq]; omega) (by omega) (by simp only [maxLen] at hcap; omega)) (by rw [List.length_take, List.length_drop, hpl.eq]; omega)) ?_ (by rintro e w' ⟨rfl, hb⟩; exact ⟨_, rfl, hb, rfl⟩)
        go_simp
      intro vals w' hC hΦ hne
      have h7 : vals 7 = .agg ((Sha.piece R ((PP.drop a64).take 64)).map W32).toArray := hΦ 7 (by decide)
      clear hΦ hne
      simp only [List.getD_eq_getElem?_getD, List.getElem?_cons_zero, List.getElem?_cons_succ, Option.getD_some, List.drop_succ_cons, List.drop_zero]
      simp only [h7]
      clear h7
      try simp only [tuple_undef]
      replace hM := hM.adds hC
      clear hC
      have hpl8 : Len ((Sha.piece R ((PP.drop a64).take 64)).map W32) 8 := W32_len (Sha.piece_len _ _ hrl)
      have HQ : ∀ _ : Unit, (Sha.piece R ((PP.drop a64).take 64)).map W32 = (Sha.run PP (q + 1)).map W32 := fun _ => by rw [HS ()]
      clear HS
      generalize Sha.piece R ((PP.drop a64).take 64) = R2 at *
      go_wp2_with (first | go_skip | ((first | (with_reducible refine gL_load ?_) | ((with_reducible refine gG_load ?_ ?_); (exact wanted_of rfl rfl rfl rfl rfl))); refine ⟨_, _, rfl, (by (first | (assumption) | (exact hM.loads_B8 (by (repeat (first | exact .head _ | apply List.Mem.tail)); done) (on_of rfl) (by first | omega | (simp only [Len] at *; omega) | (simp; omega))) | (exact hM.loads_all (by (repeat (first | exact .head _ | apply List.Mem.tail)); done) (ag_of rfl) (by first | assumption | exact Len.map (by assumption) _ | rfl | exact Len.map (by rfl) _ | exact Len.of (by simp; done) | exact W32_len (by assumption) | exact Len.map (W32_len (by assumption)) _)) | (exact hM.loads_one (by (repeat (first | exact .head _ | apply List.Mem.tail)); done) (on_of rfl) rfl) | (exact hM.loads_W32 (by (repeat (first | exact .head _ | apply List.Mem.tail)); done) (on_of rfl) (by first | omega | (simp only [Len] at *; omega) | (simp; omega))) | (exact loads_cell (by assumption) (on_of rfl)))), ?_⟩) | ((with_reducible refine gL_store hM ?_); refine ⟨_, _, _, rfl, rfl, (by (first | (exact hM.stores_all (by (repeat (first | exact .here _ _ _ | apply Has.there)); done) (ag_of rfl) ks_w32 (by rfl) W32_one) | (exact hM.stores_B8 (by first | exact (rfl : B8 _ = B8 _) | exact lit8 _ (by decide)) (by (repeat (first | exact .here _ _ _ | apply Has.there)); done) (on_of rfl) (by first | omega | (simp only [Len] at *; omega) | (simp; omega))) | (exact hM.stores_all (by (repeat (first | exact .here _ _ _ | apply Has.there)); done) (ag_of rfl) (by first | assumption | exact Len.map (by assumption) _ | rfl | exact Len.map (by rfl) _ | exact Len.of (by simp; done) | exact W32_len (by assumption) | exact Len.map (W32_len (by assumption)) _) (by first | assumption | exact Len.map (by assumption) _ | rfl | exact Len.map (by rfl) _ | exact Len.of (by simp; done) | exact W32_len (by assumption) | exact Len.map (W32_len (by assumption)) _) (by first | exact B8_one | exact W32_one | exact one_of_all rfl)) | (exact hM.stores_W32 rfl (by (repeat (first | exact .here _ _ _ | apply Has.there)); done) (on_of rfl) (by first | omega | (simp only [Len] at *; omega) | (simp; omega))) | (exact hM.stores_one (by (repeat (first | exact .here _ _ _ | apply Has.there)); done) (on_of rfl) (by first | omega | (simp only [Len] at *; omega) | (simp; omega)) rfl rfl))), ?_⟩; intro _ hM2; clear hM; have hM := hM2; clear hM2) | ((with_reducible refine gL_alloc hM ?_); refine ⟨_, _, (zr_of rfl), ?_⟩; intro _ _ hM2; clear hM; have hM := hM2; clear hM2) | ((with_reducible refine gL_box hM ?_); refine ⟨_, _, _, rfl, rfl, (by first | assumption | exact Len.map (by assumption) _ | rfl | exact Len.map (by rfl) _ | exact Len.of (by simp; done) | exact W32_len (by assumption) | exact Len.map (W32_len (by assumption)) _), ?_⟩; intro _ _ hM2; clear hM; have hM := hM2; clear hM2) | ((with_reducible refine gL_build0 ?_); refine ⟨_, _, _, _, _, _, (zr_of rfl), (ua_of rfl), (ag_of rfl), (el_of rfl), ?_⟩) | ((with_reducible refine gL_buildBytes hM ?_); refine ⟨_, _, (us_of rfl), (el_of rfl), (by decide), (by decide), rfl, (by (repeat (first | exact EvB.nil | apply EvB.cons rfl (by first | exact (rfl : B8 _ = B8 _) | exact lit8 _ (by decide)))); done), ?_⟩; intro _ _ hM2; clear hM; have hM := hM2; clear hM2) | ((with_reducible refine gL_append_B hM ?_); refine ⟨_, _, _, _, _, _, _, _, _, _, rfl, rfl, (by first | exact (rfl : Value.slice (some ⟨_, 0, none⟩) _ _ = sl (some _) _ _) | exact (rfl : Value.slice none _ _ = sl none _ _) | rfl), (us_of rfl), (el_of rfl), (by first | exact hM.src (by (repeat (first | exact .head _ | apply List.Mem.tail)); done) | exact (hM.bytes0 (by assumption)).src), (fun _ _ => by (repeat (first | exact .here _ _ _ | apply Swap.there)); done), (by first | assumption | exact Len.map (by assumption) _ | rfl | exact Len.map (by rfl) _ | exact Len.of (by simp; done) | exact W32_len (by assumption) | exact Len.map (W32_len (by assumption)) _), (by first | assumption | exact Len.map (by assumption) _ | rfl | exact Len.map (by rfl) _ | exact Len.of (by simp; done) | exact W32_len (by assumption) | exact Len.map (W32_len (by assumption)) _), (by first | assumption | (simp [maxLen]; done) | omega | (simp [maxLen]; omega)), (by first | omega | (simp only [Len] at *; omega) | (simp; omega)), ?_⟩; intro _ _ _ hM2 _ _; clear hM; have hM := hM2; clear hM2) | ((first | (with_reducible refine gL_field ?_) | ((with_reducible refine gG_field ?_ ?_); (exact wanted_of rfl rfl rfl rfl rfl))); refine ⟨_, _, rfl, (by (first | (exact field_one (fb_of rfl) rfl) | (exact field_agg (fa_of rfl) rfl))), ?_⟩))
      rw [HQ ()] at hM
      go_roundw
      case rel => exact ⟨q + 1, by have := HA (); omega, by have := HA (); go_num, hM⟩
      case measure => simp [intOf]; omega
    · have hqe : q = n / 64 := by have := HA (); omega
      have hae : a64 = n := by omega
      subst hae
      clear HS ha64
      rw [hqe] at hM hrl
      have hAt : ∀ i k, i < 8 → k < 4 → ∀ _ : Unit, gb O (4 * i + k) = (shr32 (gw (Sha.run PP (a64 / 64)) i) (24 - 8 * k)).toUInt8 := fun i k hi hk _ => by rw [← HF ()]; exact Sha.out_at _ hi hk
      clear HF HA HN64 hqe
      generalize Sha.run PP (a64 / 64) = R at *
      go_wp2_with (first | ((first | ((with_reducible refine gL_alloc (dst := some 7) hM ?_); refine ⟨_, _, (zr_of rfl), ?_⟩) | ((with_reducible refine gL_box (dst := some 7) hM ?_); refine ⟨_, _, _, rfl, rfl, (by first | assumption | exact Len.map (by assumption) _ | rfl | exact Len.map (by rfl) _ | exact Len.of (by simp; done) | exact W32_len (by assumption) | exact Len.map (W32_len (by assumption)) _), ?_⟩)); intro g7 _ hM2; clear hM; have hM := hM2; clear hM2) | go_skip | ((first | (with_reducible refine gL_load ?_) | ((with_reducible refine gG_load ?_ ?_); (exact wanted_of rfl rfl rfl rfl rfl))); refine ⟨_, _, rfl, (by (first | (assumption) | (exact hM.loads_B8 (by (repeat (first | exact .head _ | apply List.Mem.tail)); done) (on_of rfl) (by first | omega | (simp only [Len] at *; omega) | (simp; omega))) | (exact hM.loads_all (by (repeat (first | exact .head _ | apply List.Mem.tail)); done) (ag_of rfl) (by first | assumption | exact Len.map (by assumption) _ | rfl | exact Len.map (by rfl) _ | exact Len.of (by simp; done) | exact W32_len (by assumption) | exact Len.map (W32_len (by assumption)) _)) | (exact hM.loads_one (by (repeat (first | exact .head _ | apply List.Mem.tail)); done) (on_of rfl) rfl) | (exact hM.loads_W32 (by (repeat (first | exact .head _ | apply List.Mem.tail)); done) (on_of rfl) (by first | omega | (simp only [Len] at *; omega) | (simp; omega))) | (exact loads_cell (by assumption) (on_of rfl)))), ?_⟩) | ((with_reducible refine gL_store hM ?_); refine ⟨_, _, _, rfl, rfl, (by (first | (exact hM.stores_all (by (repeat (first | exact .here _ _ _ | apply Has.there)); done) (ag_of rfl) ks_w32 (by rfl) W32_one) | (exact hM.stores_B8 (by first | exact (rfl : B8 _ = B8 _) | exact lit8 _ (by decide)) (by (repeat (first | exact .here _ _ _ | apply Has.there)); done) (on_of rfl) (by first | omega | (simp only [Len] at *; omega) | (simp; omega))) | (exact hM.stores_all (by (repeat (first | exact .here _ _ _ | apply Has.there)); done) (ag_of rfl) (by first | assumption | exact Len.map (by assumption) _ | rfl | exact Len.map (by rfl) _ | exact Len.of (by simp; done) | exact W32_len (by assumption) | exact Len.map (W32_len (by assumption)) _) (by first | assumption | exact Len.map (by assumption) _ | rfl | exact Len.map (by rfl) _ | exact Len.of (by simp; done) | exact W32_len (by assumption) | exact Len.map (W32_len (by assumption)) _) (by first | exact B8_one | exact W32_one | exact one_of_all rfl)) | (exact hM.stores_W32 rfl (by (repeat (first | exact .here _ _ _ | apply Has.there)); done) (on_of rfl) (by first | omega | (simp only [Len] at *; omega) | (simp; omega))) | (exact hM.stores_one (by (repeat (first | exact .here _ _ _ | apply Has.there)); done) (on_of rfl) (by first | omega | (simp only [Len] at *; omega) | (simp; omega)) rfl rfl))), ?_⟩; intro _ hM2; clear hM; have hM := hM2; clear hM2) | ((with_reducible refine gL_alloc hM ?_); refine ⟨_, _, (zr_of rfl), ?_⟩; intro _ _ hM2; clear hM; have hM := hM2; clear hM2) | ((with_reducible refine gL_box hM ?_); refine ⟨_, _, _, rfl, rfl, (by first | assumption | exact Len.map (by assumption) _ | rfl | exact Len.map (by rfl) _ | exact Len.of (by simp; done) | exact W32_len (by assumption) | exact Len.map (W32_len (by assumption)) _), ?_⟩; intro _ _ hM2; clear hM; have hM := hM2; clear hM2) | ((with_reducible refine gL_build0 ?_); refine ⟨_, _, _, _, _, _, (zr_of rfl), (ua_of rfl), (ag_of rfl), (el_of rfl), ?_⟩) | ((with_reducible refine gL_buildBytes hM ?_); refine ⟨_, _, (us_of rfl), (el_of rfl), (by decide), (by decide), rfl, (by (repeat (first | exact EvB.nil | apply EvB.cons rfl (by first | exact (rfl : B8 _ = B8 _) | exact lit8 _ (by decide)))); done), ?_⟩; intro _ _ hM2; clear hM; have hM := hM2; clear hM2) | ((with_reducible refine gL_append_B hM ?_); refine ⟨_, _, _, _, _, _, _, _, _, _, rfl, rfl, (by first | exact (rfl : Value.slice (some ⟨_, 0, none⟩) _ _ = sl (some _) _ _) | exact (rfl : Value.slice none _ _ = sl none _ _) | rfl), (us_of rfl), (el_of rfl), (by first | exact hM.src (by (repeat (first | exact .head _ | apply List.Mem.tail)); done) | exact (hM.bytes0 (by assumption)).src), (fun _ _ => by (repeat (first | exact .here _ _ _ | apply Swap.there)); done), (by first | assumption | exact Len.map (by assumption) _ | rfl | exact Len.map (by rfl) _ | exact Len.of (by simp; done) | exact W32_len (by assumption) | exact Len.map (W32_len (by assumption)) _), (by first | assumption | exact Len.map (by assumption) _ | rfl | exact Len.map (by rfl) _ | exact Len.of (by simp; done) | exact W32_len (by assumption) | exact Len.map (W32_len (by assumption)) _), (by first | assumption | (simp [maxLen]; done) | omega | (simp [maxLen]; omega)), (by first | omega | (simp only [Len] at *; omega) | (simp; omega)), ?_⟩; intro _ _ _ hM2 _ _; clear hM; have hM := hM2; clear hM2) | ((first | (with_reducible refine gL_field ?_) | ((with_reducible refine gG_field ?_ ?_); (exact wanted_of rfl rfl rfl rfl rfl))); refine ⟨_, _, rfl, (by (first | (exact field_one (fb_of rfl) rfl) | (exact field_agg (fa_of rfl) rfl))), ?_⟩))
      rw [← filling_zero O 32] at hM
      have hXo : O.length = 32 := hol.eq
      go_loopw [8] (fun i wr => ∃ k : Nat, k ≤ 32 ∧ i = .int .i64 k ∧ Mem [] w0 wr [⟨some g7, 25, (filling O 32 k).map B8, 32⟩, ⟨some g5, 86, KS.map W32, 64⟩, ⟨some g4, 85, R.map W32, 8⟩, ⟨some gp, 5, PP.map B8, cap⟩, ⟨some g2, 25, (List.replicate 32 (0 : UInt8)).map B8, 32⟩]) (fun i _ => 32 - (intOf i).toNat)
      case atStart => exact ⟨0, by omega, rfl, hM⟩
      case round =>
        clear hM
        obtain ⟨k, hk, rfl, hM⟩ := hrel
        have hlE2 := filling_len hXo k hk
        by_cases hltk : k < 32
        · have htk : (k : Int) < 32 := by omega
          have hset := filling_set hXo hltk
          obtain ⟨i4, hi4⟩ : ∃ i4, i4 = k / 4 := ⟨_, rfl⟩
          obtain ⟨r4, hr4⟩ : ∃ r4, r4 = k % 4 := ⟨_, rfl⟩
          have hkk : k = 4 * i4 + r4 := by omega
          have hi8 : i4 < 8 := by omega
          have hr8 : r4 < 4 := by omega
          have hc1 : (k : Int) / 4 = (i4 : Int) := by omega
          have hc2 : (k : Int) % 4 = (r4 : Int) := by omega
          have hc24 : (24 : Int) - 8 * (r4 : Int) = ((24 - 8 * r4 : Nat) : Int) := by omega
          have hg := hAt i4 r4 hi8 hr8 ()
          rw [← hkk] at hg
          rw [hg] at hset
          have HS : ∀ _ : Unit, _ := fun _ => hset
          clear hset hg hkk hi4 hr4 hAt
          generalize filling O 32 k = F at *
          generalize 24 - 8 * r4 = k24 at *
          go_wp2_with (first | go_skip | ((first | (with_reducible refine gL_load ?_) | ((with_reducible refine gG_load ?_ ?_); (exact wanted_of rfl rfl rfl rfl rfl))); refine ⟨_, _, rfl, (by (first | (assumption) | (exact hM.loads_B8 (by (repeat (first | exact .head _ | apply List.Mem.tail)); done) (on_of rfl) (by first | omega | (simp only [Len] at *; omega) | (simp; omega))) | (exact hM.loads_all (by (repeat (first | exact .head _ | apply List.Mem.tail)); done) (ag_of rfl) (by first | assumption | exact Len.map (by assumption) _ | rfl | exact Len.map (by rfl) _ | exact Len.of (by simp; done) | exact W32_len (by assumption) | exact Len.map (W32_len (by assumption)) _)) | (exact hM.loads_one (by (repeat (first | exact .head _ | apply List.Mem.tail)); done) (on_of rfl) rfl) | (exact hM.loads_W32 (by (repeat (first | exact .head _ | apply List.Mem.tail)); done) (on_of rfl) (by first | omega | (simp only [Len] at *; omega) | (simp; omega))) | (exact loads_cell (by assumption) (on_of rfl)))), ?_⟩) | ((with_reducible refine gL_store hM ?_); refine ⟨_, _, _, rfl, rfl, (by (first | (exact hM.stores_all (by (repeat (first | exact .here _ _ _ | apply Has.there)); done) (ag_of rfl) ks_w32 (by rfl) W32_one) | (exact hM.stores_B8 (by first | exact (rfl : B8 _ = B8 _) | exact lit8 _ (by decide)) (by (repeat (first | exact .here _ _ _ | apply Has.there)); done) (on_of rfl) (by first | omega | (simp only [Len] at *; omega) | (simp; omega))) | (exact hM.stores_all (by (repeat (first | exact .here _ _ _ | apply Has.there)); done) (ag_of rfl) (by first | assumption | exact Len.map (by assumption) _ | rfl | exact Len.map (by rfl) _ | exact Len.of (by simp; done) | exact W32_len (by assumption) | exact Len.map (W32_len (by assumption)) _) (by first | assumption | exact Len.map (by assumption) _ | rfl | exact Len.map (by rfl) _ | exact Len.of (by simp; done) | exact W32_len (by assumption) | exact Len.map (W32_len (by assumption)) _) (by first | exact B8_one | exact W32_one | exact one_of_all rfl)) | (exact hM.stores_W32 rfl (by (repeat (first | exact .here _ _ _ | apply Has.there)); done) (on_of rfl) (by first | omega | (simp only [Len] at *; omega) | (simp; omega))) | (exact hM.stores_one (by (repeat (first | exact .here _ _ _ | apply Has.there)); done) (on_of rfl) (by first | omega | (simp only [Len] at *; omega) | (simp; omega)) rfl rfl))), ?_⟩; intro _ hM2; clear hM; have hM := hM2; clear hM2) | ((with_reducible refine gL_alloc hM ?_); refine ⟨_, _, (zr_of rfl), ?_⟩; intro _ _ hM2; clear hM; have hM := hM2; clear hM2) | ((with_reducible refine gL_box hM ?_); refine ⟨_, _, _, rfl, rfl, (by first | assumption | exact Len.map (by assumption) _ | rfl | exact Len.map (by rfl) _ | exact Len.of (by simp; done) | exact W32_len (by assumption) | exact Len.map (W32_len (by assumption)) _), ?_⟩; intro _ _ hM2; clear hM; have hM := hM2; clear hM2) | ((with_reducible refine gL_build0 ?_); refine ⟨_, _, _, _, _, _, (zr_of rfl), (ua_of rfl), (ag_of rfl), (el_of rfl), ?_⟩) | ((with_reducible refine gL_buildBytes hM ?_); refine ⟨_, _, (us_of rfl), (el_of rfl), (by decide), (by decide), rfl, (by (repeat (first | exact EvB.nil | apply EvB.cons rfl (by first | exact (rfl : B8 _ = B8 _) | exact lit8 _ (by decide)))); done), ?_⟩; intro _ _ hM2; clear hM; have hM := hM2; clear hM2) | ((with_reducible refine gL_append_B hM ?_); refine ⟨_, _, _, _, _, _, _, _, _, _, rfl, rfl, (by first | exact (rfl : Value.slice (some ⟨_, 0, none⟩) _ _ = sl (some _) _ _) | exact (rfl : Value.slice none _ _ = sl none _ _) | rfl), (us_of rfl), (el_of rfl), (by first | exact hM.src (by (repeat (first | exact .head _ | apply List.Mem.tail)); done) | exact (hM.bytes0 (by assumption)).src), (fun _ _ => by (repeat (first | exact .here _ _ _ | apply Swap.there)); done), (by first | assumption | exact Len.map (by assumption) _ | rfl | exact Len.map (by rfl) _ | exact Len.of (by simp; done) | exact W32_len (by assumption) | exact Len.map (W32_len (by assumption)) _), (by first | assumption | exact Len.map (by assumption) _ | rfl | exact Len.map (by rfl) _ | exact Len.of (by simp; done) | exact W32_len (by assumption) | exact Len.map (W32_len (by assumption)) _), (by first | assumption | (simp [maxLen]; done) | omega | (simp [maxLen]; omega)), (by first | omega | (simp only [Len] at *; omega) | (simp; omega)), ?_⟩; intro _ _ _ hM2 _ _; clear hM; have hM := hM2; clear hM2) | ((first | (with_reducible refine gL_field ?_) | ((with_reducible refine gG_field ?_ ?_); (exact wanted_of rfl rfl rfl rfl rfl))); refine ⟨_, _, rfl, (by (first | (exact field_one (fb_of rfl) rfl) | (exact field_agg (fa_of rfl) rfl))), ?_⟩))
          rw [HS ()] at hM
          go_roundw
          case rel => exact ⟨k + 1, by omega, by go_num, hM⟩
          case measure => simp [intOf]; omega
        · have : k = 32 := by omega
          subst this
          rw [filling_all hXo] at hM
          clear hAt
          go_wp2_with (first | ((with_reducible refine gL_load ?_); refine ⟨_, _, rfl, hM.loads_all (.head _) (ag_of rfl) (hol.map _), ?_⟩) |
            ((with_reducible refine gL_store hM ?_); refine ⟨_, _, _, rfl, rfl, hM.stores_all (by (repeat (first | exact .here _ _ _ | apply Has.there)); done) (ag_of rfl) (hol.map _) (by rfl) B8_one, ?_⟩; intro _ hM2; clear hM; have hM := hM2; clear hM2))
          exact hM.ret_cell rfl rfl rfl (.tail _ (.tail _ (.tail _ (.tail _ (.head _))))) (ag_of rfl) (hol.map _) ⟨rfl, hM.done⟩
end Go.Proofs.YtejmbkljnhnklaaDoor
namespace Go.Proofs.YtejmbkljnhnklaaDoor
open Go.RowKit Go.PK
theorem hash_eq (a b : List UInt8) (ha : Len a 32) (hb : Len b 32) : EqTo Tryd.prog 25 (a.map B8).toArray (b.map B8).toArray (a == b) :=
  ⟨by kernel_rfl, fun w => run_equalIn_arr (P := Tryd.prog) B8 0 Tryd.underlying25 Tryd.underlying5 (by kernel_rfl) (fun d x y w => equalIn_B8 Tryd.underlying5 d x y w) 9998 a b ha hb (w := w)⟩
theorem hash_self (a : List UInt8) (ha : Len a 32) : EqTo Tryd.prog 25 (a.map B8).toArray (a.map B8).toArray true := by
  have := hash_eq a a ha ha
  rwa [beq_self_eq_true] at this
end Go.Proofs.YtejmbkljnhnklaaDoor
namespace Go.PK.Mac
def base (key : List UInt8) : List UInt8 := if key.length > 64 then Sha.of key else key
def block (key : List UInt8) : List UInt8 := base key ++ List.replicate (64 - (base key).length) 0
def over (b : List UInt8) (x : UInt8) : List UInt8 := b.map (· ^^^ x)
def inner (key m : List UInt8) : List UInt8 := over (block key) 0x36 ++ m
def tag (key m : List UInt8) : List UInt8 := Sha.of (over (block key) 0x5C ++ Sha.of (inner key m))
def derive (key label : List UInt8) : List UInt8 := tag key (label ++ [0, 1, 0, 0, 0])
theorem base_len (key : List UInt8) : (base key).length ≤ 64 := by
  unfold base
  split
  · rw [Sha.of_len]; omega
  · omega
theorem block_len (key : List UInt8) : (block key).length = 64 := by
  have := base_len key
  simp [block]
  omega
theorem over_len (b : List UInt8) (x : UInt8) : (over b x).length = b.length := by simp [over]
theorem tag_len (key m : List UInt8) : (tag key m).length = 32 := Sha.of_len _
theorem gb_over {b : List UInt8} {i : Nat} (h : i < b.length) (x : UInt8) : gb (over b x) i = gb b i ^^^ x := by
  unfold gb over
  rw [List.getD_eq_getElem?_getD, List.getD_eq_getElem?_getD, List.getElem?_map, List.getElem?_eq_getElem h]
  rfl
theorem over_take (b : List UInt8) (x : UInt8) {k : Nat} (h : k < b.length) : (over b x).take (k + 1) = (over b x).take k ++ [gb b k ^^^ x] := by
  rw [List.take_succ_eq_append_getElem (by rw [over_len]; exact h), ← gb_over h]
  unfold gb
  rw [List.getD_eq_getElem?_getD, List.getElem?_eq_getElem (by rw [over_len]; exact h)]
  rfl
end Go.PK.Mac
namespace Go.Proofs.YtejmbkljnhnklaaDoor
open Go.RowKit Go.PK
theorem index_B8 {t n e : Nat} (hu : Tryd.prog.underlying t = some (.array n e)) (he : (Tryd.prog.info? e).map (·.size) = some 1) (ho : oneB Tryd.prog e = true) {l : List UInt8} (hl : l.length = n) {i : Nat} (hi : i < n) :
    Indexed Tryd.prog t (.agg (l.map B8).toArray) (.int .i64 (i : Int)) (B8 (gb l i)) := by
  intro w
  cases hq : Tryd.prog.info? e with
  | none => simp [hq] at he
  | some j =>
    have hs : j.size = 1 := by simpa [hq] using he
    obtain ⟨d, hd, hd2, -⟩ := oneB_parts ho
    have hagg := run_isAgg (P := Tryd.prog) hd w
    rw [hd2] at hagg
    have h1 : (l.map B8)[i]? = some (B8 (gb l i)) := get_map 0 (by omega)
    simp [Instr.index, asIntOf, Sem.run_bind, run_underlying hu, sizeOf, typeInfo, hq, hs, part, hagg]
    rw [List.getElem?_map] at h1
    simp [h1]
    omega
theorem bu_mac (g : Nat) : Builds Tryd.prog 65 [(0, .pointer (some ⟨g, 0, none⟩))] (.agg (.pointer (some ⟨g, 0, none⟩) :: (List.replicate 64 (0 : UInt8)).map B8).toArray) := by
  intro w
  kernel_rfl
def macC (g : Nat) (K : List UInt8) : List Value := .pointer (some ⟨g, 0, none⟩) :: K.map B8
theorem macC_len {g : Nat} {K : List UInt8} (h : K.length = 64) : Len (macC g K) 65 := Len.of (by simp [macC, h])
theorem macC_set {g : Nat} {K : List UInt8} (k : Nat) (x : UInt8) : (macC g K).set (1 + k) (B8 x) = macC g (K.set k x) := by
  rw [macC, Nat.add_comm, List.set_cons_succ, ← List.map_set]
  rfl
set_option maxRecDepth 100000 in
set_option maxHeartbeats 4000000 in
theorem mac_New (w0 : World) (v : Value) (key : List UInt8) (hv : Bytes w0 v key) (hlen : key.length ≤ 140737488355000) :
    Calls Tryd.prog 33 #[v] w0 fun e w' => ∃ gm gd C, e = .returned (.pointer (some ⟨gm, 0, none⟩)) ∧ Mem [] w0 w' [⟨some gm, 65, macC gd (Mac.over (Mac.block key) 0x5C), 65⟩, ⟨some gd, 88, C, 137⟩] ∧ DigAt C (Mac.over (Mac.block key) 0x36) := by
  have hM := Mem.start w0
  obtain ⟨K, hK⟩ : ∃ K, K = Mac.block key := ⟨_, rfl⟩
  obtain ⟨b, hb⟩ : ∃ b, b = Mac.base key := ⟨_, rfl⟩
  have hKl : K.length = 64 := by rw [hK]; exact Mac.block_len _
  have hbl : b.length ≤ 64 := by rw [hb]; exact Mac.base_len _
  have HKb : ∀ _ : Unit, K = b ++ List.replicate (64 - b.length) 0 := fun _ => by rw [hK, hb]; rfl
  have hb1 : key.length > 64 → Unit → b = Sha.of key := fun h _ => by rw [hb]; exact if_pos h
  have hb2 : ¬ key.length > 64 → Unit → b = key := fun h _ => by rw [hb]; exact if_neg h
  have hofb : key.length > 64 → ∀ w, Bytes w v key → Calls Tryd.prog 44 #[v] w fun e w' => e = .returned (.agg (b.map B8).toArray) ∧ Below w.heap.size w w' := fun h w hw => by
    rw [hb1 h ()]
    exact sha_Of w v key hw (by omega)
  rw [← hK]
  clear hK hb
  have hl36 : (Mac.over K 0x36).length = 64 := by rw [Mac.over_len]; exact hKl
  have hl5c : (Mac.over K 0x5C).length = 64 := by rw [Mac.over_len]; exact hKl
  have hg36 : ∀ i, i < 64 → Unit → gb (Mac.over K 0x36) i = gb K i ^^^ 54 := fun i hi _ => Mac.gb_over (by omega) _
  have hg5c : ∀ i, i < 64 → Unit → gb (Mac.over K 0x5C) i = gb K i ^^^ 92 := fun i hi _ => Mac.gb_over (by omega) _
  generalize Mac.over K 0x36 = I at *
  generalize Mac.over K 0x5C = O at *
  obtain ⟨ao, cap, rfl, e1, e2, e3, -⟩ := id hv
  have hcells : ((List.replicate 64 (0 : UInt8)).map B8).take 0 ++ (b.take 64).map B8 ++ ((List.replicate 64 (0 : UInt8)).map B8).drop (0 + (b.take 64).length) = K.map B8 := by
    rw [HKb (), List.take_of_length_le hbl, ← List.map_drop, List.drop_replicate, Nat.zero_add, List.take_zero, List.nil_append, List.map_append]
  have HC : ∀ _ : Unit, _ := fun _ => hcells
  clear hcells
  go_enter Tryd.func33, Tryd.ntmps33
  by_cases h64 : key.length > 64
  · have hbe := hb1 h64 ()
    have hb32 : Len b 32 := by rw [hbe]; exact Len.of (Sha.of_len _)
    have h64i : (64 : Int) < (key.length : Int) := by omega
    clear hbe hb1 hb2
    go_wp2_with (first | ((first | ((with_reducible refine gL_alloc (dst := some 3) hM ?_); refine ⟨_, _, (zr_of rfl), ?_⟩) | ((with_reducible refine gL_box (dst := some 3) hM ?_); refine ⟨_, _, _, rfl, rfl, (by first | assumption | exact Len.map (by assumption) _ | rfl | exact Len.map (by rfl) _ | exact Len.of (by simp; done)), ?_⟩)); intro g3 _ hM2; clear hM; have hM := hM2; clear hM2) | ((first | ((with_reducible refine gL_alloc (dst := some 4) hM ?_); refine ⟨_, _, (zr_of rfl), ?_⟩) | ((with_reducible refine gL_box (dst := some 4) hM ?_); refine ⟨_, _, _, rfl, rfl, (by first | assumption | exact Len.map (by assumption) _ | rfl | exact Len.map (by rfl) _ | exact Len.of (by simp; done)), ?_⟩)); intro g4 _ hM2; clear hM; have hM := hM2; clear hM2) | (go_at_call 44; have hvw := hM.bytes0 hv; (with_reducible refine (hofb h64 _ hvw).mono ?_); clear hvw; rintro _ _ ⟨rfl, B1⟩; replace hM := hM.adds B1; clear B1) |
      ((with_reducible refine gL_slice ?_); refine ⟨_, slice_arr_all (ua_of rfl) (by exact elOne rfl), ?_⟩) |
      ((with_reducible refine gL_copy_B hM ?_); refine ⟨_, _, _, _, _, _, (List.replicate 64 (0 : UInt8)).map B8, _, _, _, b, (us_of rfl), (by exact elOne rfl), rfl, rfl, hM.whole (ob := some g4) (.head _) hb32 (by decide), by simp, .there _ (.here _ _ _), ?_⟩; rw [HC ()]; intro _ hM2; clear hM; have hM := hM2; clear hM2) | go_skip | ((first | (with_reducible refine gL_load ?_) | ((with_reducible refine gG_load ?_ ?_); (exact wanted_of rfl rfl rfl rfl rfl))); refine ⟨_, _, rfl, (by (first | (assumption) | (exact hM.loads_B8 (by (repeat (first | exact .head _ | apply List.Mem.tail)); done) (on_of rfl) (by first | omega | (simp only [Len] at *; omega) | (simp; omega))) | (exact hM.loads_all (by (repeat (first | exact .head _ | apply List.Mem.tail)); done) (ag_of rfl) (by first | assumption | exact Len.map (by assumption) _ | rfl | exact Len.map (by rfl) _ | exact Len.of (by simp; done))) | (exact hM.loads_one (by (repeat (first | exact .head _ | apply List.Mem.tail)); done) (on_of rfl) rfl) | (exact hM.loads_W32 (by (repeat (first | exact .head _ | apply List.Mem.tail)); done) (on_of rfl) (by first | omega | (simp only [Len] at *; omega) | (simp; omega))) | (exact loads_cell (by assumption) (on_of rfl)))), ?_⟩) | ((with_reducible refine gL_store hM ?_); refine ⟨_, _, _, rfl, rfl, (by (first | (exact hM.stores_B8 (by first | exact (rfl : B8 _ = B8 _) | exact lit8 _ (by decide)) (by (repeat (first | exact .here _ _ _ | apply Has.there)); done) (on_of rfl) (by first | omega | (simp only [Len] at *; omega) | (simp; omega))) | (exact hM.stores_all (by (repeat (first | exact .here _ _ _ | apply Has.there)); done) (ag_of rfl) (by first | assumption | exact Len.map (by assumption) _ | rfl | exact Len.map (by rfl) _ | exact Len.of (by simp; done)) (by first | assumption | exact Len.map (by assumption) _ | rfl | exact Len.map (by rfl) _ | exact Len.of (by simp; done)) (by first | exact B8_one | exact W32_one | exact one_of_all rfl)) | (exact hM.stores_W32 rfl (by (repeat (first | exact .here _ _ _ | apply Has.there)); done) (on_of rfl) (by first | omega | (simp only [Len] at *; omega) | (simp; omega))) | (exact hM.stores_one (by (repeat (first | exact .here _ _ _ | apply Has.there)); done) (on_of rfl) (by first | omega | (simp only [Len] at *; omega) | (simp; omega)) rfl rfl))), ?_⟩; intro _ hM2; clear hM; have hM := hM2; clear hM2) | ((with_reducible refine gL_alloc hM ?_); refine ⟨_, _, (zr_of rfl), ?_⟩; intro _ _ hM2; clear hM; have hM := hM2; clear hM2) | ((with_reducible refine gL_box hM ?_); refine ⟨_, _, _, rfl, rfl, (by first | assumption | exact Len.map (by assumption) _ | rfl | exact Len.map (by rfl) _ | exact Len.of (by simp; done)), ?_⟩; intro _ _ hM2; clear hM; have hM := hM2; clear hM2) | ((with_reducible refine gL_build0 ?_); refine ⟨_, _, _, _, _, _, (zr_of rfl), (ua_of rfl), (ag_of rfl), (el_of rfl), ?_⟩) | ((with_reducible refine gL_buildBytes hM ?_); refine ⟨_, _, (us_of rfl), (el_of rfl), (by decide), (by decide), rfl, (by (repeat (first | exact EvB.nil | apply EvB.cons rfl (by first | exact (rfl : B8 _ = B8 _) | exact lit8 _ (by decide)))); done), ?_⟩; intro _ _ hM2; clear hM; have hM := hM2; clear hM2) | ((with_reducible refine gL_append_B hM ?_); refine ⟨_, _, _, _, _, _, _, _, _, _, rfl, rfl, (by first | exact (rfl : Value.slice (some ⟨_, 0, none⟩) _ _ = sl (some _) _ _) | exact (rfl : Value.slice none _ _ = sl none _ _) | rfl), (us_of rfl), (el_of rfl), (by first | exact hM.src (by (repeat (first | exact .head _ | apply List.Mem.tail)); done) | exact (hM.bytes0 (by assumption)).src), (fun _ _ => by (repeat (first | exact .here _ _ _ | apply Swap.there)); done), (by first | assumption | exact Len.map (by assumption) _ | rfl | exact Len.map (by rfl) _ | exact Len.of (by simp; done)), (by first | assumption | exact Len.map (by assumption) _ | rfl | exact Len.map (by rfl) _ | exact Len.of (by simp; done)), (by first | assumption | (simp [maxLen]; done) | omega | (simp [maxLen]; omega)), (by first | omega | (simp only [Len] at *; omega) | (simp; omega)), ?_⟩; intro _ _ _ hM2 _ _; clear hM; have hM := hM2; clear hM2) | ((first | (with_reducible refine gL_field ?_) | ((with_reducible refine gG_field ?_ ?_); (exact wanted_of rfl rfl rfl rfl rfl))); refine ⟨_, _, rfl, (by (first | (exact field_one (fb_of rfl) rfl) | (exact field_agg (fa_of rfl) rfl))), ?_⟩))
    refine (sha_New _).mono ?_
    rintro _ w1 ⟨gd, rfl, hM3⟩
    replace hM := (hM.addNew hM3.done (hM3.holds _ (.head _)) (hM3.mem_new (.head _)))
    clear hM3
    have hM0 : Mem [] w0 w1 [⟨some gd, 88, dig Sha.begins (List.replicate 64 0) 0, 137⟩, ⟨some g3, 63, K.map B8, 64⟩] := hM.sub (by repeat (first | exact List.nil_sublist _ | apply List.Sublist.cons_cons | apply List.Sublist.cons))
    clear hM
    have hM := hM0
    clear hM0
    obtain ⟨D0, hD0⟩ : ∃ D0, D0 = dig Sha.begins (List.replicate 64 0) 0 := ⟨_, rfl⟩
    rw [← hD0] at hM
    have HD0 : ∀ _ : Unit, D0 = dig Sha.begins (List.replicate 64 0) 0 := fun _ => hD0
    have hKL : Len (K.map B8) 64 := Len.of (by simp [hKl])
    clear hD0
    go_wp2_with (first | ((with_reducible refine gL_build ?_); refine ⟨_, _, rfl, bu_mac gd, ?_⟩) |
      ((with_reducible refine gL_box (dst := some 20) hM ?_); refine ⟨_, macC gd (List.replicate 64 0), 65, rfl, rfl, macC_len rfl, ?_⟩; intro gm _ hM2; clear hM; have hM := hM2; clear hM2) |
      ((first | ((with_reducible refine gL_alloc (dst := some 6) hM ?_); refine ⟨_, _, (zr_of rfl), ?_⟩) | ((with_reducible refine gL_box (dst := some 6) hM ?_); refine ⟨_, _, _, rfl, rfl, (by first | assumption | exact Len.map (by assumption) _ | rfl | exact Len.map (by rfl) _ | exact Len.of (by simp; done)), ?_⟩)); intro g6 _ hM2; clear hM; have hM := hM2; clear hM2) | ((with_reducible refine gL_load ?_); refine ⟨_, _, rfl, hM.loads_all (.tail _ (.tail _ (.tail _ (.head _)))) (ag_of rfl) hKL, ?_⟩) | go_skip | ((first | (with_reducible refine gL_load ?_) | ((with_reducible refine gG_load ?_ ?_); (exact wanted_of rfl rfl rfl rfl rfl))); refine ⟨_, _, rfl, (by (first | (assumption) | (exact hM.loads_B8 (by (repeat (first | exact .head _ | apply List.Mem.tail)); done) (on_of rfl) (by first | omega | (simp only [Len] at *; omega) | (simp; omega))) | (exact hM.loads_all (by (repeat (first | exact .head _ | apply List.Mem.tail)); done) (ag_of rfl) (by first | assumption | exact Len.map (by assumption) _ | rfl | exact Len.map (by rfl) _ | exact Len.of (by simp; done))) | (exact hM.loads_one (by (repeat (first | exact .head _ | apply List.Mem.tail)); done) (on_of rfl) rfl) | (exact hM.loads_W32 (by (repeat (first | exact .head _ | apply List.Mem.tail)); done) (on_of rfl) (by first | omega | (simp only [Len] at *; omega) | (simp; omega))) | (exact loads_cell (by assumption) (on_of rfl)))), ?_⟩) | ((with_reducible refine gL_store hM ?_); refine ⟨_, _, _, rfl, rfl, (by (first | (exact hM.stores_B8 (by first | exact (rfl : B8 _ = B8 _) | exact lit8 _ (by decide)) (by (repeat (first | exact .here _ _ _ | apply Has.there)); done) (on_of rfl) (by first | omega | (simp only [Len] at *; omega) | (simp; omega))) | (exact hM.stores_all (by (repeat (first | exact .here _ _ _ | apply Has.there)); done) (ag_of rfl) (by first | assumption | exact Len.map (by assumption) _ | rfl | exact Len.map (by rfl) _ | exact Len.of (by simp; done)) (by first | assumption | exact Len.map (by assumption) _ | rfl | exact Len.map (by rfl) _ | exact Len.of (by simp; done)) (by first | exact B8_one | exact W32_one | exact one_of_all rfl)) | (exact hM.stores_W32 rfl (by (repeat (first | exact .here _ _ _ | apply Has.there)); done) (on_of rfl) (by first | omega | (simp only [Len] at *; omega) | (simp; omega))) | (exact hM.stores_one (by (repeat (first | exact .here _ _ _ | apply Has.there)); done) (on_of rfl) (by first | omega | (simp only [Len] at *; omega) | (simp; omega)) rfl rfl))), ?_⟩; intro _ hM2; clear hM; have hM := hM2; clear hM2) | ((with_reducible refine gL_alloc hM ?_); refine ⟨_, _, (zr_of rfl), ?_⟩; intro _ _ hM2; clear hM; have hM := hM2; clear hM2) | ((with_reducible refine gL_box hM ?_); refine ⟨_, _, _, rfl, rfl, (by first | assumption | exact Len.map (by assumption) _ | rfl | exact Len.map (by rfl) _ | exact Len.of (by simp; done)), ?_⟩; intro _ _ hM2; clear hM; have hM := hM2; clear hM2) | ((with_reducible refine gL_build0 ?_); refine ⟨_, _, _, _, _, _, (zr_of rfl), (ua_of rfl), (ag_of rfl), (el_of rfl), ?_⟩) | ((with_reducible refine gL_buildBytes hM ?_); refine ⟨_, _, (us_of rfl), (el_of rfl), (by decide), (by decide), rfl, (by (repeat (first | exact EvB.nil | apply EvB.cons rfl (by first | exact (rfl : B8 _ = B8 _) | exact lit8 _ (by decide)))); done), ?_⟩; intro _ _ hM2; clear hM; have hM := hM2; clear hM2) | ((with_reducible refine gL_append_B hM ?_); refine ⟨_, _, _, _, _, _, _, _, _, _, rfl, rfl, (by first | exact (rfl : Value.slice (some ⟨_, 0, none⟩) _ _ = sl (some _) _ _) | exact (rfl : Value.slice none _ _ = sl none _ _) | rfl), (us_of rfl), (el_of rfl), (by first | exact hM.src (by (repeat (first | exact .head _ | apply List.Mem.tail)); done) | exact (hM.bytes0 (by assumption)).src), (fun _ _ => by (repeat (first | exact .here _ _ _ | apply Swap.there)); done), (by first | assumption | exact Len.map (by assumption) _ | rfl | exact Len.map (by rfl) _ | exact Len.of (by simp; done)), (by first | assumption | exact Len.map (by assumption) _ | rfl | exact Len.map (by rfl) _ | exact Len.of (by simp; done)), (by first | assumption | (simp [maxLen]; done) | omega | (simp [maxLen]; omega)), (by first | omega | (simp only [Len] at *; omega) | (simp; omega)), ?_⟩; intro _ _ _ hM2 _ _; clear hM; have hM := hM2; clear hM2) | ((first | (with_reducible refine gL_field ?_) | ((with_reducible refine gG_field ?_ ?_); (exact wanted_of rfl rfl rfl rfl rfl))); refine ⟨_, _, rfl, (by (first | (exact field_one (fb_of rfl) rfl) | (exact field_agg (fa_of rfl) rfl))), ?_⟩))
    replace hM := (show ∀ w, Mem [] w0 w [⟨some g6, 63, (List.replicate 64 (0 : UInt8)).map B8, 64⟩, ⟨some gm, 65, macC gd (List.replicate 64 0), 65⟩, ⟨some gd, 88, D0, 137⟩, ⟨some g3, 63, K.map B8, 64⟩] → Mem [] w0 w [⟨some g6, 63, (filling I 64 0).map B8, 64⟩, ⟨some gm, 65, macC gd (filling O 64 0), 65⟩, ⟨some gd, 88, D0, 137⟩, ⟨some g3, 63, K.map B8, 64⟩] from fun w h => by rw [filling_zero, filling_zero]; exact h) _ hM
    go_loopw [7, 8, 22] (fun _ _ i wr => ∃ k : Nat, k ≤ 64 ∧ i = .int .i64 k ∧ Mem [] w0 wr [⟨some g6, 63, (filling I 64 k).map B8, 64⟩, ⟨some gm, 65, macC gd (filling O 64 k), 65⟩, ⟨some gd, 88, D0, 137⟩, ⟨some g3, 63, K.map B8, 64⟩]) (fun _ _ i _ => 64 - (intOf i).toNat)
    case atStart => exact ⟨0, by omega, rfl, hM⟩
    case round =>
      clear hM
      obtain ⟨k, hk, rfl, hM⟩ := hrel
      have hlI := filling_len hl36 k hk
      have hlO := filling_len hl5c k hk
      by_cases hlt : k < 64
      · have hti : (k : Int) < 64 := by omega
        have hsI := filling_set hl36 hlt
        have hsO := filling_set hl5c hlt
        rw [hg36 k hlt ()] at hsI
        rw [hg5c k hlt ()] at hsO
        have HSI : ∀ _ : Unit, _ := fun _ => hsI
        have HSO : ∀ _ : Unit, _ := fun _ => hsO
        clear hsI hsO
        generalize filling I 64 k = FI at *
        generalize filling O 64 k = FO at *
        have c1 : wr.cell? ⟨g6, k, none⟩ = some (B8 (gb FI k)) := hM.cell (.head _) (get_map 0 (by omega))
        have f1 := hM.free (.head _) k
        have c2 : wr.cell? ⟨gm, 1 + k, none⟩ = some (B8 (gb FO k)) := hM.cell (.tail _ (.head _)) (by rw [macC, Nat.add_comm, List.getElem?_cons_succ]; exact get_map 0 (by omega))
        have f2 := hM.free (.tail _ (.head _)) (1 + k)
        have hne : g6 ≠ gm := by
          have := hM.nodup
          simp at this
          omega
        have hne2 : gm ≠ g6 := fun h => hne h.symm
        go_wp2_with (first | ((with_reducible refine gL_index ?_); refine ⟨_, _, _, rfl, rfl, index_B8 (ua_of rfl) (by exact elOne rfl) (on_of rfl) hKl hlt, ?_⟩))
        go_region
        all_goals go_wp2
        all_goals
          replace hM := hM.setB8 (off := k) (x := gb K k ^^^ 54) (.here _ _ _) (by omega)
          replace hM := hM.setCell (off := 1 + k) (C := macC gd FO) (v := B8 (gb K k ^^^ 92)) (.there _ (.here _ _ _)) (by rw [(macC_len hlO).eq]; omega)
          rw [macC_set, HSI (), HSO ()] at hM
          replace hM := hM.drew
          go_roundw
          case rel => exact ⟨k + 1, by omega, by go_num, hM⟩
          case measure => simp [intOf]; omega
      · have : k = 64 := by omega
        subst this
        rw [filling_all hl36, filling_all hl5c] at hM
        have hLI : Len I 64 := Len.of hl36
        have hne : g6 ≠ gd := by
          have := hM.nodup
          simp at this
          omega
        have hDl : Len D0 137 := by rw [HD0 ()]; rfl
        have hpt : Loads Tryd.prog wr 62 ⟨gm, 0, none⟩ (.pointer (some ⟨gd, 0, none⟩)) := hM.loads_one (.tail _ (.head _)) (on_of rfl) rfl
        go_wp2_with fail
        try simp only [Act.put, List.setIfInBounds_toArray, List.set_cons_succ, List.set_cons_zero]
        refine wp_region_tail 5 (by decide) (fun c vals => ⟨#[c 0, c 1, c 2, c 3, c 4, (Value.pointer (some ⟨gm, 0, none⟩) : Value), (Value.pointer (some ⟨g6, 0, none⟩) : Value), c 7, c 8, c 9, c 10, c 11, c 12, c 13, c 14, c 15, c 16, c 17, c 18, c 19, c 20, c 21, c 22, c 23, c 24, c 25, c 26, c 27, c 28, c 29, c 30, c 31, c 32, c 33, c 34, c 35, c 36, c 37, vals 0, vals 1, vals 2, vals 3, vals 4, c 43, c 44], []⟩) (fun t => [_, _, _, _, _, undef, undef, _, _, _, _, _, _, _, _, _, _, _, _, _, _, _, _, _, _, _, _, _, _, _, _, _, _, _, _, _, _, _, undef, undef, undef, undef, undef, _, _].getD t undef) (fun i => [_, _, _, _, _].getD i undef) (by kernel_rfl)
          [[], [0], [0, 1], [0, 1, 2], [], [0, 1, 2, 3, 4]] (by kernel_rfl) (by kernel_rfl) (fun _ => True) trivial
          [fun x _ => x = (Value.pointer (some ⟨gm, 0, none⟩) : Value),
           fun x _ => x = (Value.pointer (some ⟨gm, 0, none⟩) : Value),
           fun x _ => x = (Value.pointer (some ⟨gm, 0, none⟩) : Value),
           fun x _ => x = (Value.pointer (some ⟨gd, 0, none⟩) : Value),
           fun x _ => x = (Value.slice (some ⟨g6, 0, none⟩) 64 64 : Value)]
          ⟨fun _ _ _ h _ => h, fun _ _ _ h _ => h, fun _ _ _ h _ => h, fun _ _ _ h _ => h, fun _ _ _ h _ => h, trivial⟩ []
          ⟨?_, ?_, ?_, ?_, ?_, trivial⟩ ?_
        · refine showA_op 0 (by intro _ _ _; kernel_rfl) rfl rfl (fun c vals w hC hD => ?_)
          clear hD
          refine makes1 (x := .tmp 5) (X := Value.pointer (some ⟨gm, 0, none⟩)) (by kernel_rfl : _ = (Value.pointer (some ⟨gm, 0, none⟩) : Value)) (fun ρ rc rf q5 => ?_)
          exact makes_move (.inl rfl) q5 ⟨Adds.refl _, rfl⟩
        · refine showA_op 1 (by intro _ _ _; kernel_rfl) rfl rfl (fun c vals w hC hD => ?_)
          have h0 : vals 0 = .pointer (some ⟨gm, 0, none⟩) := hD 0 rfl
          clear hD
          refine makes1 (x := .tmp 38) (X := Value.pointer (some ⟨gm, 0, none⟩)) ((by kernel_rfl : _ = vals 0).trans h0) (fun ρ rc rf q38 => ?_)
          clear h0
          refine makes_value (v := Value.pointer (some ⟨gm, 0, none⟩)) ?_ ⟨Adds.refl _, rfl⟩
          go_simp
          all_goals first | done | rfl | (rw [if_pos (by omega)]; refine congrArg (fun x => Result.ok (Next.value (Value.pointer (some ⟨_, x, none⟩))) _) ?_; omega) | (rw [wrapP_i64]; omega) | go_num | (simp; done) | (simp; omega) | (congr 1; first | rfl | (rw [wrapP_i64]; omega) | (congr 1; first | rfl | (simp; done) | (simp; omega) | (congr 2; omega) | go_num))
        · refine showA_op 2 (by intro _ _ _; kernel_rfl) rfl rfl (fun c vals w hC hD => ?_)
          have h1 : vals 1 = .pointer (some ⟨gm, 0, none⟩) := hD 1 rfl
          clear hD
          refine makes1 (x := .tmp 39) (X := Value.pointer (some ⟨gm, 0, none⟩)) ((by kernel_rfl : _ = vals 1).trans h1) (fun ρ rc rf q39 => ?_)
          clear h1
          refine makes_value (v := Value.pointer (some ⟨gm, 0, none⟩)) ?_ ⟨Adds.refl _, rfl⟩
          go_simp
          all_goals first | done | rfl | (rw [if_pos (by omega)]; refine congrArg (fun x => Result.ok (Next.value (Value.pointer (some ⟨_, x, none⟩))) _) ?_; omega) | (rw [wrapP_i64]; omega) | go_num | (simp; done) | (simp; omega) | (congr 1; first | rfl | (rw [wrapP_i64]; omega) | (congr 1; first | rfl | (simp; done) | (simp; omega) | (congr 2; omega) | go_num))
        · refine showA_op 3 (by intro _ _ _; kernel_rfl) rfl rfl (fun c vals w hC hD => ?_)
          have h2 : vals 2 = .pointer (some ⟨gm, 0, none⟩) := hD 2 rfl
          clear hD
          refine makes1 (x := .tmp 40) (X := Value.pointer (some ⟨gm, 0, none⟩)) ((by kernel_rfl : _ = vals 2).trans h2) (fun ρ rc rf q40 => ?_)
          clear h2
          exact makes_load ((hM.adds hC).loads_one (.tail _ (.head _)) (on_of rfl) rfl) rfl q40 ⟨Adds.refl _, rfl⟩
        · refine showA_op 4 (by intro _ _ _; kernel_rfl) rfl rfl (fun c vals w hC hD => ?_)
          clear hD
          refine makes1 (x := .tmp 6) (X := Value.pointer (some ⟨g6, 0, none⟩)) (by kernel_rfl : _ = (Value.pointer (some ⟨g6, 0, none⟩) : Value)) (fun ρ rc rf q6 => ?_)
          exact makes_slice (slice_arr_all (t := 63) (ua_of rfl) (by exact elOne rfl)) rfl q6 rfl rfl rfl ⟨Adds.refl _, rfl⟩
        intro vals w' hC hΦ hne
        have h3 : vals 3 = .pointer (some ⟨gd, 0, none⟩) := hΦ 3 (by decide)
        have h4 : vals 4 = .slice (some ⟨g6, 0, none⟩) 64 64 := hΦ 4 (by decide)
        clear hΦ hne
        simp only [List.getD_eq_getElem?_getD, List.getElem?_cons_zero, List.getElem?_cons_succ, Option.getD_some, List.drop_succ_cons, List.drop_zero]
        simp only [h3, h4]
        clear h3 h4
        try simp only [tuple_undef]
        replace hM := hM.adds hC
        clear hC hpt
        go_wp2_with fail
        have hRw := hM.rowN (.tail _ (.tail _ (.head _))) hDl
        have hBs := hM.part' (.head _) (off := 0) (n := 64) (cap := 64) (by omega) (by omega) (by decide)
        rw [List.drop_zero, List.take_of_length_le (by omega)] at hBs
        refine (sha_Write _ gd D0 [] hRw (by rw [HD0 ()]; exact DigAt.start) _ I hBs (fun _ a n' cap' he => by cases he; exact hne) (by simp; omega)).mono ?_
        rintro _ w2 ⟨rfl, C', hT, hR2, hC2⟩
        rw [List.nil_append] at hC2
        replace hM := hM.calls (.there _ (.there _ (.here _ _ _))) hT hR2 hC2.len
        clear hT hR2 hRw hBs
        go_wp2_with fail
        go_ret
        exact ⟨gm, gd, C', rfl, hM.sub (by repeat (first | exact List.nil_sublist _ | apply List.Sublist.cons_cons | apply List.Sublist.cons)), hC2⟩
  · have hbe := hb2 h64 ()
    have h64i : ¬ (64 : Int) < (key.length : Int) := by omega
    have hvb : ∀ w, Bytes w (.slice ao key.length cap) key → Bytes w (.slice ao key.length cap) b := fun w h => by rw [hbe]; exact h
    clear hbe hb1 hb2
    go_wp2_with (first | ((first | ((with_reducible refine gL_alloc (dst := some 3) hM ?_); refine ⟨_, _, (zr_of rfl), ?_⟩) | ((with_reducible refine gL_box (dst := some 3) hM ?_); refine ⟨_, _, _, rfl, rfl, (by first | assumption | exact Len.map (by assumption) _ | rfl | exact Len.map (by rfl) _ | exact Len.of (by simp; done)), ?_⟩)); intro g3 _ hM2; clear hM; have hM := hM2; clear hM2) | ((with_reducible refine gL_slice ?_); refine ⟨_, slice_arr_all (ua_of rfl) (by exact elOne rfl), ?_⟩) |
      ((with_reducible refine gL_copy_B hM ?_); refine ⟨_, _, _, _, _, _, (List.replicate 64 (0 : UInt8)).map B8, _, _, _, b, (us_of rfl), (by exact elOne rfl), rfl, rfl, hvb _ (hM.bytes0 hv), by simp, .here _ _ _, ?_⟩; rw [HC ()]; intro _ hM2; clear hM; have hM := hM2; clear hM2) | go_skip | ((first | (with_reducible refine gL_load ?_) | ((with_reducible refine gG_load ?_ ?_); (exact wanted_of rfl rfl rfl rfl rfl))); refine ⟨_, _, rfl, (by (first | (assumption) | (exact hM.loads_B8 (by (repeat (first | exact .head _ | apply List.Mem.tail)); done) (on_of rfl) (by first | omega | (simp only [Len] at *; omega) | (simp; omega))) | (exact hM.loads_all (by (repeat (first | exact .head _ | apply List.Mem.tail)); done) (ag_of rfl) (by first | assumption | exact Len.map (by assumption) _ | rfl | exact Len.map (by rfl) _ | exact Len.of (by simp; done))) | (exact hM.loads_one (by (repeat (first | exact .head _ | apply List.Mem.tail)); done) (on_of rfl) rfl) | (exact hM.loads_W32 (by (repeat (first | exact .head _ | apply List.Mem.tail)); done) (on_of rfl) (by first | omega | (simp only [Len] at *; omega) | (simp; omega))) | (exact loads_cell (by assumption) (on_of rfl)))), ?_⟩) | ((with_reducible refine gL_store hM ?_); refine ⟨_, _, _, rfl, rfl, (by (first | (exact hM.stores_B8 (by first | exact (rfl : B8 _ = B8 _) | exact lit8 _ (by decide)) (by (repeat (first | exact .here _ _ _ | apply Has.there)); done) (on_of rfl) (by first | omega | (simp only [Len] at *; omega) | (simp; omega))) | (exact hM.stores_all (by (repeat (first | exact .here _ _ _ | apply Has.there)); done) (ag_of rfl) (by first | assumption | exact Len.map (by assumption) _ | rfl | exact Len.map (by rfl) _ | exact Len.of (by simp; done)) (by first | assumption | exact Len.map (by assumption) _ | rfl | exact Len.map (by rfl) _ | exact Len.of (by simp; done)) (by first | exact B8_one | exact W32_one | exact one_of_all rfl)) | (exact hM.stores_W32 rfl (by (repeat (first | exact .here _ _ _ | apply Has.there)); done) (on_of rfl) (by first | omega | (simp only [Len] at *; omega) | (simp; omega))) | (exact hM.stores_one (by (repeat (first | exact .here _ _ _ | apply Has.there)); done) (on_of rfl) (by first | omega | (simp only [Len] at *; omega) | (simp; omega)) rfl rfl))), ?_⟩; intro _ hM2; clear hM; have hM := hM2; clear hM2) | ((with_reducible refine gL_alloc hM ?_); refine ⟨_, _, (zr_of rfl), ?_⟩; intro _ _ hM2; clear hM; have hM := hM2; clear hM2) | ((with_reducible refine gL_box hM ?_); refine ⟨_, _, _, rfl, rfl, (by first | assumption | exact Len.map (by assumption) _ | rfl | exact Len.map (by rfl) _ | exact Len.of (by simp; done)), ?_⟩; intro _ _ hM2; clear hM; have hM := hM2; clear hM2) | ((with_reducible refine gL_build0 ?_); refine ⟨_, _, _, _, _, _, (zr_of rfl), (ua_of rfl), (ag_of rfl), (el_of rfl), ?_⟩) | ((with_reducible refine gL_buildBytes hM ?_); refine ⟨_, _, (us_of rfl), (el_of rfl), (by decide), (by decide), rfl, (by (repeat (first | exact EvB.nil | apply EvB.cons rfl (by first | exact (rfl : B8 _ = B8 _) | exact lit8 _ (by decide)))); done), ?_⟩; intro _ _ hM2; clear hM; have hM := hM2; clear hM2) | ((with_reducible refine gL_append_B hM ?_); refine ⟨_, _, _, _, _, _, _, _, _, _, rfl, rfl, (by first | exact (rfl : Value.slice (some ⟨_, 0, none⟩) _ _ = sl (some _) _ _) | exact (rfl : Value.slice none _ _ = sl none _ _) | rfl), (us_of rfl), (el_of rfl), (by first | exact hM.src (by (repeat (first | exact .head _ | apply List.Mem.tail)); done) | exact (hM.bytes0 (by assumption)).src), (fun _ _ => by (repeat (first | exact .here _ _ _ | apply Swap.there)); done), (by first | assumption | exact Len.map (by assumption) _ | rfl | exact Len.map (by rfl) _ | exact Len.of (by simp; done)), (by first | assumption | exact Len.map (by assumption) _ | rfl | exact Len.map (by rfl) _ | exact Len.of (by simp; done)), (by first | assumption | (simp [maxLen]; done) | omega | (simp [maxLen]; omega)), (by first | omega | (simp only [Len] at *; omega) | (simp; omega)), ?_⟩; intro _ _ _ hM2 _ _; clear hM; have hM := hM2; clear hM2) | ((first | (with_reducible refine gL_field ?_) | ((with_reducible refine gG_field ?_ ?_); (exact wanted_of rfl rfl rfl rfl rfl))); refine ⟨_, _, rfl, (by (first | (exact field_one (fb_of rfl) rfl) | (exact field_agg (fa_of rfl) rfl))), ?_⟩))
    refine (sha_New _).mono ?_
    rintro _ w1 ⟨gd, rfl, hM3⟩
    replace hM := (hM.addNew hM3.done (hM3.holds _ (.head _)) (hM3.mem_new (.head _)))
    clear hM3
    have hM0 : Mem [] w0 w1 [⟨some gd, 88, dig Sha.begins (List.replicate 64 0) 0, 137⟩, ⟨some g3, 63, K.map B8, 64⟩] := hM.sub (by repeat (first | exact List.nil_sublist _ | apply List.Sublist.cons_cons | apply List.Sublist.cons))
    clear hM
    have hM := hM0
    clear hM0
    obtain ⟨D0, hD0⟩ : ∃ D0, D0 = dig Sha.begins (List.replicate 64 0) 0 := ⟨_, rfl⟩
    rw [← hD0] at hM
    have HD0 : ∀ _ : Unit, D0 = dig Sha.begins (List.replicate 64 0) 0 := fun _ => hD0
    have hKL : Len (K.map B8) 64 := Len.of (by simp [hKl])
    clear hD0
    go_wp2_with (first | ((with_reducible refine gL_build ?_); refine ⟨_, _, rfl, bu_mac gd, ?_⟩) |
      ((with_reducible refine gL_box (dst := some 20) hM ?_); refine ⟨_, macC gd (List.replicate 64 0), 65, rfl, rfl, macC_len rfl, ?_⟩; intro gm _ hM2; clear hM; have hM := hM2; clear hM2) |
      ((first | ((with_reducible refine gL_alloc (dst := some 6) hM ?_); refine ⟨_, _, (zr_of rfl), ?_⟩) | ((with_reducible refine gL_box (dst := some 6) hM ?_); refine ⟨_, _, _, rfl, rfl, (by first | assumption | exact Len.map (by assumption) _ | rfl | exact Len.map (by rfl) _ | exact Len.of (by simp; done)), ?_⟩)); intro g6 _ hM2; clear hM; have hM := hM2; clear hM2) | ((with_reducible refine gL_load ?_); refine ⟨_, _, rfl, hM.loads_all (.tail _ (.tail _ (.tail _ (.head _)))) (ag_of rfl) hKL, ?_⟩) | go_skip | ((first | (with_reducible refine gL_load ?_) | ((with_reducible refine gG_load ?_ ?_); (exact wanted_of rfl rfl rfl rfl rfl))); refine ⟨_, _, rfl, (by (first | (assumption) | (exact hM.loads_B8 (by (repeat (first | exact .head _ | apply List.Mem.tail)); done) (on_of rfl) (by first | omega | (simp only [Len] at *; omega) | (simp; omega))) | (exact hM.loads_all (by (repeat (first | exact .head _ | apply List.Mem.tail)); done) (ag_of rfl) (by first | assumption | exact Len.map (by assumption) _ | rfl | exact Len.map (by rfl) _ | exact Len.of (by simp; done))) | (exact hM.loads_one (by (repeat (first | exact .head _ | apply List.Mem.tail)); done) (on_of rfl) rfl) | (exact hM.loads_W32 (by (repeat (first | exact .head _ | apply List.Mem.tail)); done) (on_of rfl) (by first | omega | (simp only [Len] at *; omega) | (simp; omega))) | (exact loads_cell (by assumption) (on_of rfl)))), ?_⟩) | ((with_reducible refine gL_store hM ?_); refine ⟨_, _, _, rfl, rfl, (by (first | (exact hM.stores_B8 (by first | exact (rfl : B8 _ = B8 _) | exact lit8 _ (by decide)) (by (repeat (first | exact .here _ _ _ | apply Has.there)); done) (on_of rfl) (by first | omega | (simp only [Len] at *; omega) | (simp; omega))) | (exact hM.stores_all (by (repeat (first | exact .here _ _ _ | apply Has.there)); done) (ag_of rfl) (by first | assumption | exact Len.map (by assumption) _ | rfl | exact Len.map (by rfl) _ | exact Len.of (by simp; done)) (by first | assumption | exact Len.map (by assumption) _ | rfl | exact Len.map (by rfl) _ | exact Len.of (by simp; done)) (by first | exact B8_one | exact W32_one | exact one_of_all rfl)) | (exact hM.stores_W32 rfl (by (repeat (first | exact .here _ _ _ | apply Has.there)); done) (on_of rfl) (by first | omega | (simp only [Len] at *; omega) | (simp; omega))) | (exact hM.stores_one (by (repeat (first | exact .here _ _ _ | apply Has.there)); done) (on_of rfl) (by first | omega | (simp only [Len] at *; omega) | (simp; omega)) rfl rfl))), ?_⟩; intro _ hM2; clear hM; have hM := hM2; clear hM2) | ((with_reducible refine gL_alloc hM ?_); refine ⟨_, _, (zr_of rfl), ?_⟩; intro _ _ hM2; clear hM; have hM := hM2; clear hM2) | ((with_reducible refine gL_box hM ?_); refine ⟨_, _, _, rfl, rfl, (by first | assumption | exact Len.map (by assumption) _ | rfl | exact Len.map (by rfl) _ | exact Len.of (by simp; done)), ?_⟩; intro _ _ hM2; clear hM; have hM := hM2; clear hM2) | ((with_reducible refine gL_build0 ?_); refine ⟨_, _, _, _, _, _, (zr_of rfl), (ua_of rfl), (ag_of rfl), (el_of rfl), ?_⟩) | ((with_reducible refine gL_buildBytes hM ?_); refine ⟨_, _, (us_of rfl), (el_of rfl), (by decide), (by decide), rfl, (by (repeat (first | exact EvB.nil | apply EvB.cons rfl (by first | exact (rfl : B8 _ = B8 _) | exact lit8 _ (by decide)))); done), ?_⟩; intro _ _ hM2; clear hM; have hM := hM2; clear hM2) | ((with_reducible refine gL_append_B hM ?_); refine ⟨_, _, _, _, _, _, _, _, _, _, rfl, rfl, (by first | exact (rfl : Value.slice (some ⟨_, 0, none⟩) _ _ = sl (some _) _ _) | exact (rfl : Value.slice none _ _ = sl none _ _) | rfl), (us_of rfl), (el_of rfl), (by first | exact hM.src (by (repeat (first | exact .head _ | apply List.Mem.tail)); done) | exact (hM.bytes0 (by assumption)).src), (fun _ _ => by (repeat (first | exact .here _ _ _ | apply Swap.there)); done), (by first | assumption | exact Len.map (by assumption) _ | rfl | exact Len.map (by rfl) _ | exact Len.of (by simp; done)), (by first | assumption | exact Len.map (by assumption) _ | rfl | exact Len.map (by rfl) _ | exact Len.of (by simp; done)), (by first | assumption | (simp [maxLen]; done) | omega | (simp [maxLen]; omega)), (by first | omega | (simp only [Len] at *; omega) | (simp; omega)), ?_⟩; intro _ _ _ hM2 _ _; clear hM; have hM := hM2; clear hM2) | ((first | (with_reducible refine gL_field ?_) | ((with_reducible refine gG_field ?_ ?_); (exact wanted_of rfl rfl rfl rfl rfl))); refine ⟨_, _, rfl, (by (first | (exact field_one (fb_of rfl) rfl) | (exact field_agg (fa_of rfl) rfl))), ?_⟩))
    replace hM := (show ∀ w, Mem [] w0 w [⟨some g6, 63, (List.replicate 64 (0 : UInt8)).map B8, 64⟩, ⟨some gm, 65, macC gd (List.replicate 64 0), 65⟩, ⟨some gd, 88, D0, 137⟩, ⟨some g3, 63, K.map B8, 64⟩] → Mem [] w0 w [⟨some g6, 63, (filling I 64 0).map B8, 64⟩, ⟨some gm, 65, macC gd (filling O 64 0), 65⟩, ⟨some gd, 88, D0, 137⟩, ⟨some g3, 63, K.map B8, 64⟩] from fun w h => by rw [filling_zero, filling_zero]; exact h) _ hM
    go_loopw [7, 8, 22] (fun _ _ i wr => ∃ k : Nat, k ≤ 64 ∧ i = .int .i64 k ∧ Mem [] w0 wr [⟨some g6, 63, (filling I 64 k).map B8, 64⟩, ⟨some gm, 65, macC gd (filling O 64 k), 65⟩, ⟨some gd, 88, D0, 137⟩, ⟨some g3, 63, K.map B8, 64⟩]) (fun _ _ i _ => 64 - (intOf i).toNat)
    case atStart => exact ⟨0, by omega, rfl, hM⟩
    case round =>
      clear hM
      obtain ⟨k, hk, rfl, hM⟩ := hrel
      have hlI := filling_len hl36 k hk
      have hlO := filling_len hl5c k hk
      by_cases hlt : k < 64
      · have hti : (k : Int) < 64 := by omega
        have hsI := filling_set hl36 hlt
        have hsO := filling_set hl5c hlt
        rw [hg36 k hlt ()] at hsI
        rw [hg5c k hlt ()] at hsO
        have HSI : ∀ _ : Unit, _ := fun _ => hsI
        have HSO : ∀ _ : Unit, _ := fun _ => hsO
        clear hsI hsO
        generalize filling I 64 k = FI at *
        generalize filling O 64 k = FO at *
        have c1 : wr.cell? ⟨g6, k, none⟩ = some (B8 (gb FI k)) := hM.cell (.head _) (get_map 0 (by omega))
        have f1 := hM.free (.head _) k
        have c2 : wr.cell? ⟨gm, 1 + k, none⟩ = some (B8 (gb FO k)) := hM.cell (.tail _ (.head _)) (by rw [macC, Nat.add_comm, List.getElem?_cons_succ]; exact get_map 0 (by omega))
        have f2 := hM.free (.tail _ (.head _)) (1 + k)
        have hne : g6 ≠ gm := by
          have := hM.nodup
          simp at this
          omega
        have hne2 : gm ≠ g6 := fun h => hne h.symm
        go_wp2_with (first | ((with_reducible refine gL_index ?_); refine ⟨_, _, _, rfl, rfl, index_B8 (ua_of rfl) (by exact elOne rfl) (on_of rfl) hKl hlt, ?_⟩))
        go_region
        all_goals go_wp2
        all_goals
          replace hM := hM.setB8 (off := k) (x := gb K k ^^^ 54) (.here _ _ _) (by omega)
          replace hM := hM.setCell (off := 1 + k) (C := macC gd FO) (v := B8 (gb K k ^^^ 92)) (.there _ (.here _ _ _)) (by rw [(macC_len hlO).eq]; omega)
          rw [macC_set, HSI (), HSO ()] at hM
          replace hM := hM.drew
          go_roundw
          case rel => exact ⟨k + 1, by omega, by go_num, hM⟩
          case measure => simp [intOf]; omega
      · have : k = 64 := by omega
        subst this
        rw [filling_all hl36, filling_all hl5c] at hM
        have hLI : Len I 64 := Len.of hl36
        have hne : g6 ≠ gd := by
          have := hM.nodup
          simp at this
          omega
        have hDl : Len D0 137 := by rw [HD0 ()]; rfl
        have hpt : Loads Tryd.prog wr 62 ⟨gm, 0, none⟩ (.pointer (some ⟨gd, 0, none⟩)) := hM.loads_one (.tail _ (.head _)) (on_of rfl) rfl
        go_wp2_with fail
        try simp only [Act.put, List.setIfInBounds_toArray, List.set_cons_succ, List.set_cons_zero]
        refine wp_region_tail 5 (by decide) (fun c vals => ⟨#[c 0, c 1, c 2, c 3, c 4, (Value.pointer (some ⟨gm, 0, none⟩) : Value), (Value.pointer (some ⟨g6, 0, none⟩) : Value), c 7, c 8, c 9, c 10, c 11, c 12, c 13, c 14, c 15, c 16, c 17, c 18, c 19, c 20, c 21, c 22, c 23, c 24, c 25, c 26, c 27, c 28, c 29, c 30, c 31, c 32, c 33, c 34, c 35, c 36, c 37, vals 0, vals 1, vals 2, vals 3, vals 4, c 43, c 44], []⟩) (fun t => [_, _, _, _, _, undef, undef, _, _, _, _, _, _, _, _, _, _, _, _, _, _, _, _, _, _, _, _, _, _, _, _, _, _, _, _, _, _, _, undef, undef, undef, undef, undef, _, _].getD t undef) (fun i => [_, _, _, _, _].getD i undef) (by kernel_rfl)
          [[], [0], [0, 1], [0, 1, 2], [], [0, 1, 2, 3, 4]] (by kernel_rfl) (by kernel_rfl) (fun _ => True) trivial
          [fun x _ => x = (Value.pointer (some ⟨gm, 0, none⟩) : Value),
           fun x _ => x = (Value.pointer (some ⟨gm, 0, none⟩) : Value),
           fun x _ => x = (Value.pointer (some ⟨gm, 0, none⟩) : Value),
           fun x _ => x = (Value.pointer (some ⟨gd, 0, none⟩) : Value),
           fun x _ => x = (Value.slice (some ⟨g6, 0, none⟩) 64 64 : Value)]
          ⟨fun _ _ _ h _ => h, fun _ _ _ h _ => h, fun _ _ _ h _ => h, fun _ _ _ h _ => h, fun _ _ _ h _ => h, trivial⟩ []
          ⟨?_, ?_, ?_, ?_, ?_, trivial⟩ ?_
        · refine showA_op 0 (by intro _ _ _; kernel_rfl) rfl rfl (fun c vals w hC hD => ?_)
          clear hD
          refine makes1 (x := .tmp 5) (X := Value.pointer (some ⟨gm, 0, none⟩)) (by kernel_rfl : _ = (Value.pointer (some ⟨gm, 0, none⟩) : Value)) (fun ρ rc rf q5 => ?_)
          exact makes_move (.inl rfl) q5 ⟨Adds.refl _, rfl⟩
        · refine showA_op 1 (by intro _ _ _; kernel_rfl) rfl rfl (fun c vals w hC hD => ?_)
          have h0 : vals 0 = .pointer (some ⟨gm, 0, none⟩) := hD 0 rfl
          clear hD
          refine makes1 (x := .tmp 38) (X := Value.pointer (some ⟨gm, 0, none⟩)) ((by kernel_rfl : _ = vals 0).trans h0) (fun ρ rc rf q38 => ?_)
          clear h0
          refine makes_value (v := Value.pointer (some ⟨gm, 0, none⟩)) ?_ ⟨Adds.refl _, rfl⟩
          go_simp
          all_goals first | done | rfl | (rw [if_pos (by omega)]; refine congrArg (fun x => Result.ok (Next.value (Value.pointer (some ⟨_, x, none⟩))) _) ?_; omega) | (rw [wrapP_i64]; omega) | go_num | (simp; done) | (simp; omega) | (congr 1; first | rfl | (rw [wrapP_i64]; omega) | (congr 1; first | rfl | (simp; done) | (simp; omega) | (congr 2; omega) | go_num))
        · refine showA_op 2 (by intro _ _ _; kernel_rfl) rfl rfl (fun c vals w hC hD => ?_)
          have h1 : vals 1 = .pointer (some ⟨gm, 0, none⟩) := hD 1 rfl
          clear hD
          refine makes1 (x := .tmp 39) (X := Value.pointer (some ⟨gm, 0, none⟩)) ((by kernel_rfl : _ = vals 1).trans h1) (fun ρ rc rf q39 => ?_)
          clear h1
          refine makes_value (v := Value.pointer (some ⟨gm, 0, none⟩)) ?_ ⟨Adds.refl _, rfl⟩
          go_simp
          all_goals first | done | rfl | (rw [if_pos (by omega)]; refine congrArg (fun x => Result.ok (Next.value (Value.pointer (some ⟨_, x, none⟩))) _) ?_; omega) | (rw [wrapP_i64]; omega) | go_num | (simp; done) | (simp; omega) | (congr 1; first | rfl | (rw [wrapP_i64]; omega) | (congr 1; first | rfl | (simp; done) | (simp; omega) | (congr 2; omega) | go_num))
        · refine showA_op 3 (by intro _ _ _; kernel_rfl) rfl rfl (fun c vals w hC hD => ?_)
          have h2 : vals 2 = .pointer (some ⟨gm, 0, none⟩) := hD 2 rfl
          clear hD
          refine makes1 (x := .tmp 40) (X := Value.pointer (some ⟨gm, 0, none⟩)) ((by kernel_rfl : _ = vals 2).trans h2) (fun ρ rc rf q40 => ?_)
          clear h2
          exact makes_load ((hM.adds hC).loads_one (.tail _ (.head _)) (on_of rfl) rfl) rfl q40 ⟨Adds.refl _, rfl⟩
        · refine showA_op 4 (by intro _ _ _; kernel_rfl) rfl rfl (fun c vals w hC hD => ?_)
          clear hD
          refine makes1 (x := .tmp 6) (X := Value.pointer (some ⟨g6, 0, none⟩)) (by kernel_rfl : _ = (Value.pointer (some ⟨g6, 0, none⟩) : Value)) (fun ρ rc rf q6 => ?_)
          exact makes_slice (slice_arr_all (t := 63) (ua_of rfl) (by exact elOne rfl)) rfl q6 rfl rfl rfl ⟨Adds.refl _, rfl⟩
        intro vals w' hC hΦ hne
        have h3 : vals 3 = .pointer (some ⟨gd, 0, none⟩) := hΦ 3 (by decide)
        have h4 : vals 4 = .slice (some ⟨g6, 0, none⟩) 64 64 := hΦ 4 (by decide)
        clear hΦ hne
        simp only [List.getD_eq_getElem?_getD, List.getElem?_cons_zero, List.getElem?_cons_succ, Option.getD_some, List.drop_succ_cons, List.drop_zero]
        simp only [h3, h4]
        clear h3 h4
        try simp only [tuple_undef]
        replace hM := hM.adds hC
        clear hC hpt
        go_wp2_with fail
        have hRw := hM.rowN (.tail _ (.tail _ (.head _))) hDl
        have hBs := hM.part' (.head _) (off := 0) (n := 64) (cap := 64) (by omega) (by omega) (by decide)
        rw [List.drop_zero, List.take_of_length_le (by omega)] at hBs
        refine (sha_Write _ gd D0 [] hRw (by rw [HD0 ()]; exact DigAt.start) _ I hBs (fun _ a n' cap' he => by cases he; exact hne) (by simp; omega)).mono ?_
        rintro _ w2 ⟨rfl, C', hT, hR2, hC2⟩
        rw [List.nil_append] at hC2
        replace hM := hM.calls (.there _ (.there _ (.here _ _ _))) hT hR2 hC2.len
        clear hT hR2 hRw hBs
        go_wp2_with fail
        go_ret
        exact ⟨gm, gd, C', rfl, hM.sub (by repeat (first | exact List.nil_sublist _ | apply List.Sublist.cons_cons | apply List.Sublist.cons)), hC2⟩
end Go.Proofs.YtejmbkljnhnklaaDoor
namespace Go.Proofs.YtejmbkljnhnklaaDoor
open Go.RowKit Go.PK
theorem mac_outer {w : World} {gm gd : Nat} {O : List UInt8} (hR : Row w gm 65 (macC gd O)) (hO : O.length = 64) : Bytes w (.slice (some ⟨gm, 1, none⟩) 64 64) O := by
  refine ⟨some ⟨gm, 1, none⟩, 64, by rw [hO], by omega, by decide, (fun h => by cases h), fun j hj => ⟨gm, 1, rfl, hR.lt, ?_⟩⟩
  rw [hR.cell?, macC, Nat.add_comm, List.getElem?_cons_succ]
  exact get_map 0 hj
theorem mac_ptr {w : World} {gm gd : Nat} {O : List UInt8} (hR : Row w gm 65 (macC gd O)) : Loads Tryd.prog w 62 ⟨gm, 0, none⟩ (.pointer (some ⟨gd, 0, none⟩)) :=
  loads_cell (by rw [hR.cell?]; rfl) (on_of rfl)
set_option maxRecDepth 100000 in
set_option maxHeartbeats 4000000 in
theorem mac_Sum (w0 : World) (gm gd : Nat) (O : List UInt8) (C : List Value) (m : List UInt8) (hRm : Row w0 gm 65 (macC gd O)) (hO : O.length = 64) (hRd : Row w0 gd 88 C) (hC : DigAt C m) (hlen : m.length ≤ 2305843009213693952) :
    Calls Tryd.prog 35 #[.pointer (some ⟨gm, 0, none⟩)] w0 fun e w' => e = .returned (.agg ((Sha.of (O ++ Sha.of m)).map B8).toArray) ∧ Below w0.heap.size w0 w' := by
  obtain ⟨H1, hH1⟩ : ∃ H1, H1 = Sha.of m := ⟨_, rfl⟩
  have hl1 : Len H1 32 := by rw [hH1]; exact Len.of (Sha.of_len m)
  rw [← hH1]
  have HH1 : ∀ _ : Unit, H1 = Sha.of m := fun _ => hH1
  clear hH1
  obtain ⟨H2, hH2⟩ : ∃ H2, H2 = Sha.of (O ++ H1) := ⟨_, rfl⟩
  have hl2 : Len H2 32 := by rw [hH2]; exact Len.of (Sha.of_len _)
  rw [← hH2]
  have HH2 : ∀ _ : Unit, H2 = Sha.of (O ++ H1) := fun _ => hH2
  clear hH2
  have hM := Mem.start w0
  have hbO := mac_outer hRm hO
  go_enter Tryd.func35, Tryd.ntmps35
  go_wp2_with (first | ((first | ((with_reducible refine gL_alloc (dst := some 2) hM ?_); refine ⟨_, _, (zr_of rfl), ?_⟩) | ((with_reducible refine gL_box (dst := some 2) hM ?_); refine ⟨_, _, _, rfl, rfl, (by first | assumption | exact Len.map (by assumption) _ | rfl | exact Len.map (by rfl) _ | exact Len.of (by simp; done)), ?_⟩)); intro g2 _ hM2; clear hM; have hM := hM2; clear hM2) | ((with_reducible refine gL_load ?_); refine ⟨_, _, rfl, mac_ptr (hM.row hRm (by simp)), ?_⟩))
  have hRw := hM.row hRd (by simp)
  refine (sha_Sum _ gd C m hRw hC hlen).mono ?_
  rintro _ w1 ⟨rfl, hB⟩
  replace hM := hM.adds hB
  clear hB hRw
  rw [← HH1 ()]
  go_wp2_with (first | ((first | ((with_reducible refine gL_alloc (dst := some 3) hM ?_); refine ⟨_, _, (zr_of rfl), ?_⟩) | ((with_reducible refine gL_box (dst := some 3) hM ?_); refine ⟨_, _, _, rfl, rfl, (by first | assumption | exact Len.map (by assumption) _ | rfl | exact Len.map (by rfl) _ | exact Len.of (by simp; done)), ?_⟩)); intro g3 _ hM2; clear hM; have hM := hM2; clear hM2) | ((with_reducible refine gL_store hM ?_); refine ⟨_, _, _, rfl, rfl, hM.stores_all (by (repeat (first | exact .here _ _ _ | apply Has.there)); done) (ag_of rfl) (hl1.map _) (by rfl) B8_one, ?_⟩; intro _ hM2; clear hM; have hM := hM2; clear hM2))
  refine (sha_New _).mono ?_
  rintro _ w2 ⟨gs, rfl, hM3⟩
  replace hM := hM.addNew hM3.done (hM3.holds _ (.head _)) (hM3.mem_new (.head _))
  clear hM3
  have hns := hM.mem_new (.head _)
  go_wp2_with (first | ((with_reducible refine gL_slice ?_); refine ⟨_, slice_arr_all (ua_of rfl) (by exact elOne rfl), ?_⟩))
  have hRw := hM.rowN (.head _) rfl
  refine (sha_Write _ gs _ [] hRw DigAt.start _ O (hM.bytes0 hbO) (Off.old hbO hns) (by simp; omega)).mono ?_
  rintro _ w3 ⟨rfl, C3, hT, hR3, hC3⟩
  rw [List.nil_append] at hC3
  replace hM := hM.calls (.here _ _ _) hT hR3 hC3.len
  clear hT hR3 hRw
  go_wp2_with (first | ((with_reducible refine gL_slice ?_); refine ⟨_, slice_arr_all (ua_of rfl) (by exact elOne rfl), ?_⟩))
  have hRw := hM.rowN (.head _) hC3.len
  have hBs : Bytes w3 (.slice (some ⟨g3, 0, none⟩) 32 32) H1 := hM.whole (ob := some g3) (.tail _ (.head _)) hl1 (by decide)
  have hne : g3 ≠ gs := by
    have := hM.nodup
    simp at this
    omega
  refine (sha_Write _ gs _ O hRw hC3 _ H1 hBs (fun _ a n' cap' he => by cases he; exact hne) (by have := hl1.eq; omega)).mono ?_
  rintro _ w4 ⟨rfl, C4, hT, hR4, hC4⟩
  replace hM := hM.calls (.here _ _ _) hT hR4 hC4.len
  clear hT hR4 hRw hBs
  go_wp2_with fail
  have hRw := hM.rowN (.head _) hC4.len
  refine (sha_Sum _ gs C4 _ hRw hC4 (by have := hl1.eq; simp; omega)).mono ?_
  rintro _ w5 ⟨rfl, hB⟩
  replace hM := hM.adds hB
  clear hB hRw
  rw [← HH2 ()]
  go_wp2_with (first | ((with_reducible refine gL_store hM ?_); refine ⟨_, _, _, rfl, rfl, hM.stores_all (by (repeat (first | exact .here _ _ _ | apply Has.there)); done) (ag_of rfl) (hl2.map _) (by rfl) B8_one, ?_⟩; intro _ hM2; clear hM; have hM := hM2; clear hM2))
  exact hM.ret_cell rfl rfl rfl (.tail _ (.tail _ (.head _))) (ag_of rfl) (hl2.map _) ⟨rfl, hM.done⟩
set_option maxRecDepth 100000 in
set_option maxHeartbeats 4000000 in
theorem mac_Of (w0 : World) (v1 v2 : Value) (key m : List UInt8) (hv1 : Bytes w0 v1 key) (hv2 : Bytes w0 v2 m) (h1 : key.length ≤ 140737488355000) (h2 : m.length ≤ 1152921504606846976) :
    Calls Tryd.prog 19 #[v1, v2] w0 fun e w' => e = .returned (.agg ((Mac.tag key m).map B8).toArray) ∧ Below w0.heap.size w0 w' := by
  have hl2 : Len (Mac.tag key m) 32 := Len.of (Mac.tag_len _ _)
  have HT : ∀ _ : Unit, Mac.tag key m = Sha.of (Mac.over (Mac.block key) 0x5C ++ Sha.of (Mac.over (Mac.block key) 0x36 ++ m)) := fun _ => rfl
  have hOl : (Mac.over (Mac.block key) 0x5C).length = 64 := by rw [Mac.over_len]; exact Mac.block_len _
  have hIl : (Mac.over (Mac.block key) 0x36).length = 64 := by rw [Mac.over_len]; exact Mac.block_len _
  have hnew : ∀ w, Bytes w v1 key → _ := fun w h => mac_New w v1 key h h1
  generalize Mac.over (Mac.block key) 0x5C = O at *
  generalize Mac.over (Mac.block key) 0x36 = I at *
  generalize Mac.tag key m = T at *
  have hM := Mem.start w0
  go_enter Tryd.func19, Tryd.ntmps19
  go_wp2_with (first | ((first | ((with_reducible refine gL_alloc (dst := some 4) hM ?_); refine ⟨_, _, (zr_of rfl), ?_⟩) | ((with_reducible refine gL_box (dst := some 4) hM ?_); refine ⟨_, _, _, rfl, rfl, (by first | assumption | exact Len.map (by assumption) _ | rfl | exact Len.map (by rfl) _ | exact Len.of (by simp; done)), ?_⟩)); intro g4 _ hM2; clear hM; have hM := hM2; clear hM2))
  refine (hnew _ (hM.bytes0 hv1)).mono ?_
  rintro _ w1 ⟨gm, gd, C, rfl, hM3, hC⟩
  replace hM := hM.addNew2 hM3.done (hM3.holds _ (.head _)) (hM3.holds _ (.tail _ (.head _))) (hM3.mem_new (.head _)) (hM3.mem_new (.tail _ (.head _))) (by have := hM3.nodup; simp at this; omega)
  clear hM3
  have hnd := hM.mem_new (.tail _ (.head _))
  go_wp2_with (first | ((with_reducible refine gL_load ?_); refine ⟨_, _, rfl, hM.loads_one (.head _) (on_of rfl) (rfl : (macC gd O)[0]? = some (.pointer (some ⟨gd, 0, none⟩))), ?_⟩))
  have hRw := hM.rowN (.tail _ (.head _)) hC.len
  refine (sha_Write _ gd C I hRw hC v2 m (hM.bytes0 hv2) (Off.old hv2 hnd) (by omega)).mono ?_
  rintro _ w2 ⟨rfl, C2, hT, hR2, hC2⟩
  replace hM := hM.calls (.there _ (.here _ _ _)) hT hR2 hC2.len
  clear hT hR2 hRw
  go_wp2_with fail
  have hRm := hM.rowN (.head _) (macC_len hOl)
  have hRd := hM.rowN (.tail _ (.head _)) hC2.len
  refine (mac_Sum _ gm gd O C2 _ hRm hOl hRd hC2 (by simp; omega)).mono ?_
  rintro _ w3 ⟨rfl, hB⟩
  replace hM := hM.adds hB
  clear hB hRm hRd
  rw [← HT ()]
  go_wp2_with (first | ((with_reducible refine gL_store hM ?_); refine ⟨_, _, _, rfl, rfl, hM.stores_all (by (repeat (first | exact .here _ _ _ | apply Has.there)); done) (ag_of rfl) (hl2.map _) (by rfl) B8_one, ?_⟩; intro _ hM2; clear hM; have hM := hM2; clear hM2))
  exact hM.ret_cell rfl rfl rfl (.tail _ (.tail _ (.head _))) (ag_of rfl) (hl2.map _) ⟨rfl, hM.done⟩
end Go.Proofs.YtejmbkljnhnklaaDoor
namespace Go.PK
open Go.RowKit
theorem gL_buildEmpty {P : Program} {Q : Exit → Act → World → Prop} {ops : Array Oper} {rest : List Oper} {a : Act} {G : List Nat} {w0 w : World} {L : List Blk} {dst : Option Tmp} {type : TypeId} {pos : String} {after : Array Edge}
    (hM : Mem G w0 w L) {t : TypeId} (h : ∃ e es eb, P.underlying t = some (.slice e) ∧ El P e es eb ∧ ∀ g w', Mem G w0 w' (⟨some g, e, ([] : List UInt8).map B8, 0⟩ :: L) → wpList P ops Q rest (a.put dst (.slice (some ⟨g, 0, none⟩) 0 0)) w') :
    wpList P ops Q (Oper.mk dst (.buildSlice t 0 #[]) type pos after none :: rest) a w := by
  obtain ⟨e, es, eb, hu, hel, h⟩ := h
  refine wpList_plain rfl fun K hk => ?_
  obtain ⟨z, hinfo, hzs, hsz⟩ := hel
  obtain ⟨i, hi, hz0, hsize, hby⟩ := info_parts hinfo
  have hrun : (Instr.buildSlice t 0 #[]).run P w = .ok (.slice (some ⟨w.heap.size, 0, none⟩) 0 0) (w.alloc (.cells ([] : List Value).toArray e)) := by
    simp [Instr.buildSlice, run_underlying hu, sizeOf, typeInfo, hi, Instr.fill, newRow]
    exact congrArg (fun c => w.alloc (.cells c e)) (by apply Array.ext <;> simp)
  unfold Oper.wp execOp
  simp only [List.map_toArray, List.map_nil, Sem.run_bind, Sem.run_pure, Result.andThen_ok, hrun]
  exact hk _ _ (h _ _ (hM.alloc [] e))
end Go.PK
namespace Go.Proofs.YtejmbkljnhnklaaDoor
open Go.RowKit Go.PK
set_option maxRecDepth 100000 in
set_option maxHeartbeats 4000000 in
theorem ref03_over (w0 : World) (v : Value) (b : List UInt8) (hv : Bytes w0 v b) (x : UInt8) (hlen : b.length ≤ 64) (O : List UInt8) (hO : Mac.over b x = O) :
    Calls Tryd.prog 37 #[v, B8 x] w0 fun e w' => ∃ g cap, e = .returned (.slice (some ⟨g, 0, none⟩) b.length cap) ∧ cap ≤ maxLen ∧ Mem [] w0 w' [⟨some g, 5, O.map B8, cap⟩] := by
  have hM := Mem.start w0
  obtain ⟨ao, cap0, rfl, e1, e2, -⟩ := id hv
  obtain ⟨n, hn⟩ : ∃ n, n = b.length := ⟨_, rfl⟩
  have hol : O.length = n := by rw [← hO, Mac.over_len, hn]
  have HT : ∀ k, k < n → ∀ _ : Unit, O.take k ++ [b.getD k 0 ^^^ x] = O.take (k + 1) := fun k hk _ => by rw [← hO, Mac.over_take b x (by omega)]; rfl
  have HNb : ∀ _ : Unit, n = b.length := fun _ => hn
  rw [← hn] at hv e1 hlen ⊢
  clear hn hO
  go_enter Tryd.func37, Tryd.ntmps37
  go_wp2_with (first | ((with_reducible refine gL_buildEmpty hM ?_); refine ⟨_, _, _, (us_of rfl), (el_of rfl), ?_⟩; intro g5 _ hM2; clear hM; have hM := hM2; clear hM2))
  rw [show ([] : List UInt8) = O.take 0 from rfl] at hM
  go_loopw [5, 6] (fun p i wr => ∃ (k g cap : Nat), k ≤ n ∧ i = .int .i64 k ∧ p = .slice (some ⟨g, 0, none⟩) k cap ∧ cap ≤ maxLen ∧ Mem [] w0 wr [⟨some g, 5, (O.take k).map B8, cap⟩]) (fun _ i _ => n - (intOf i).toNat)
  case atStart => exact ⟨0, g5, 0, by omega, rfl, rfl, by decide, hM⟩
  case round =>
    clear hM
    obtain ⟨k, g, cap, hk, rfl, rfl, hcap, hM⟩ := hrel
    have hl3 : Len (O.take k) k := Len.of (by simp [hol]; omega)
    by_cases hlt : k < n
    · have hti : (k : Int) < (n : Int) := by omega
      obtain ⟨b1, o1, he1, -, c1⟩ := (hM.bytes0 hv).at (k := k) (by rw [← HNb ()]; exact hlt)
      subst he1
      have hX1 := HT k hlt
      clear HT
      generalize b.getD k 0 = y at *
      generalize hA : O.take k = A at *
      clear hA
      go_wp2_with (first | ((with_reducible refine gL_append_B hM ?_); refine ⟨_, _, some g, k, cap, 5, A, [y ^^^ x], 1, fun ob' cap' => [_, ⟨ob', 5, (A ++ [y ^^^ x]).map B8, cap'⟩], rfl, rfl, rfl, (us_of rfl), (el_of rfl), hM.src (.head _), fun _ _ => .there _ (.here _ _ _), hl3, rfl, hcap, by omega, ?_⟩; intro ob1 cap1 _ hM2 hd1 hd2; clear hM; have hM := hM2; clear hM2) | go_skip | ((first | (with_reducible refine gL_load ?_) | ((with_reducible refine gG_load ?_ ?_); (exact wanted_of rfl rfl rfl rfl rfl))); refine ⟨_, _, rfl, (by (first | (assumption) | (exact hM.loads_B8 (by (repeat (first | exact .head _ | apply List.Mem.tail)); done) (on_of rfl) (by first | omega | (simp only [Len] at *; omega) | (simp; omega))) | (exact hM.loads_all (by (repeat (first | exact .head _ | apply List.Mem.tail)); done) (ag_of rfl) (by first | assumption | exact Len.map (by assumption) _ | rfl | exact Len.map (by rfl) _ | exact Len.of (by simp; done))) | (exact hM.loads_one (by (repeat (first | exact .head _ | apply List.Mem.tail)); done) (on_of rfl) rfl) | (exact hM.loads_W32 (by (repeat (first | exact .head _ | apply List.Mem.tail)); done) (on_of rfl) (by first | omega | (simp only [Len] at *; omega) | (simp; omega))) | (exact loads_cell (by assumption) (on_of rfl)))), ?_⟩) | ((with_reducible refine gL_store hM ?_); refine ⟨_, _, _, rfl, rfl, (by (first | (exact hM.stores_B8 (by first | exact (rfl : B8 _ = B8 _) | exact lit8 _ (by decide)) (by (repeat (first | exact .here _ _ _ | apply Has.there)); done) (on_of rfl) (by first | omega | (simp only [Len] at *; omega) | (simp; omega))) | (exact hM.stores_all (by (repeat (first | exact .here _ _ _ | apply Has.there)); done) (ag_of rfl) (by first | assumption | exact Len.map (by assumption) _ | rfl | exact Len.map (by rfl) _ | exact Len.of (by simp; done)) (by first | assumption | exact Len.map (by assumption) _ | rfl | exact Len.map (by rfl) _ | exact Len.of (by simp; done)) (by first | exact B8_one | exact W32_one | exact one_of_all rfl)) | (exact hM.stores_W32 rfl (by (repeat (first | exact .here _ _ _ | apply Has.there)); done) (on_of rfl) (by first | omega | (simp only [Len] at *; omega) | (simp; omega))) | (exact hM.stores_one (by (repeat (first | exact .here _ _ _ | apply Has.there)); done) (on_of rfl) (by first | omega | (simp only [Len] at *; omega) | (simp; omega)) rfl rfl))), ?_⟩; intro _ hM2; clear hM; have hM := hM2; clear hM2) | ((with_reducible refine gL_alloc hM ?_); refine ⟨_, _, (zr_of rfl), ?_⟩; intro _ _ hM2; clear hM; have hM := hM2; clear hM2) | ((with_reducible refine gL_box hM ?_); refine ⟨_, _, _, rfl, rfl, (by first | assumption | exact Len.map (by assumption) _ | rfl | exact Len.map (by rfl) _ | exact Len.of (by simp; done)), ?_⟩; intro _ _ hM2; clear hM; have hM := hM2; clear hM2) | ((with_reducible refine gL_build0 ?_); refine ⟨_, _, _, _, _, _, (zr_of rfl), (ua_of rfl), (ag_of rfl), (el_of rfl), ?_⟩) | ((with_reducible refine gL_buildBytes hM ?_); refine ⟨_, _, (us_of rfl), (el_of rfl), (by decide), (by decide), rfl, (by (repeat (first | exact EvB.nil | apply EvB.cons rfl (by first | exact (rfl : B8 _ = B8 _) | exact lit8 _ (by decide)))); done), ?_⟩; intro _ _ hM2; clear hM; have hM := hM2; clear hM2) | ((with_reducible refine gL_append_B hM ?_); refine ⟨_, _, _, _, _, _, _, _, _, _, rfl, rfl, (by first | exact (rfl : Value.slice (some ⟨_, 0, none⟩) _ _ = sl (some _) _ _) | exact (rfl : Value.slice none _ _ = sl none _ _) | rfl), (us_of rfl), (el_of rfl), (by first | exact hM.src (by (repeat (first | exact .head _ | apply List.Mem.tail)); done) | exact (hM.bytes0 (by assumption)).src), (fun _ _ => by (repeat (first | exact .here _ _ _ | apply Swap.there)); done), (by first | assumption | exact Len.map (by assumption) _ | rfl | exact Len.map (by rfl) _ | exact Len.of (by simp; done)), (by first | assumption | exact Len.map (by assumption) _ | rfl | exact Len.map (by rfl) _ | exact Len.of (by simp; done)), (by first | assumption | (simp [maxLen]; done) | omega | (simp [maxLen]; omega)), (by first | omega | (simp only [Len] at *; omega) | (simp; omega)), ?_⟩; intro _ _ _ hM2 _ _; clear hM; have hM := hM2; clear hM2) | ((first | (with_reducible refine gL_field ?_) | ((with_reducible refine gG_field ?_ ?_); (exact wanted_of rfl rfl rfl rfl rfl))); refine ⟨_, _, rfl, (by (first | (exact field_one (fb_of rfl) rfl) | (exact field_agg (fa_of rfl) rfl))), ?_⟩))
      have hl4 : Len (A ++ [y ^^^ x]) (k + 1) := Len.of (by rw [List.length_append, hl3.eq]; rfl)
      obtain ⟨gq, hgq⟩ := hM.some_of (.tail _ (.head _)) (hl4.map B8) (by omega)
      subst hgq
      have hM1 := hM.drop
      rw [hX1 ()] at hM1
      go_roundw
      case rel => exact ⟨k + 1, gq, cap1, by omega, by go_num, rfl, hd2, hM1⟩
      case measure => simp [intOf]; omega
    · have hke : k = n := by omega
      subst hke
      rw [List.take_of_length_le (by omega)] at hM
      clear HT
      go_wp2
      go_ret
      exact ⟨g, cap, rfl, hcap, hM⟩
set_option maxRecDepth 100000 in
set_option maxHeartbeats 4000000 in
theorem ref03_block (w0 : World) (v : Value) (key : List UInt8) (hv : Bytes w0 v key) (hlen : key.length ≤ 140737488355000) (K : List UInt8) (hK : Mac.block key = K) :
    Calls Tryd.prog 36 #[v] w0 fun e w' => ∃ g cap, e = .returned (.slice (some ⟨g, 0, none⟩) 64 cap) ∧ cap ≤ maxLen ∧ Mem [] w0 w' [⟨some g, 5, K.map B8, cap⟩] := by
  have hM := Mem.start w0
  obtain ⟨B, hB⟩ : ∃ B, B = Mac.base key := ⟨_, rfl⟩
  have hBl : B.length ≤ 64 := by rw [hB]; exact Mac.base_len _
  have HK : ∀ _ : Unit, K = B ++ List.replicate (64 - B.length) 0 := fun _ => by rw [← hK, hB]; rfl
  have hb1 : key.length > 64 → B = Sha.of key := fun h => by rw [hB]; exact if_pos h
  have hb2 : ¬ key.length > 64 → B = key := fun h => by rw [hB]; exact if_neg h
  clear hB hK
  obtain ⟨ao, cap0, rfl, e1, e2, -⟩ := id hv
  have hl0 : Len ([] : List UInt8) 0 := rfl
  go_enter Tryd.func36, Tryd.ntmps36
  by_cases h64 : key.length > 64
  · have h64i : (64 : Int) < (key.length : Int) := by omega
    have hof : ∀ w, Bytes w (.slice ao key.length cap0) key → Calls Tryd.prog 38 #[.slice ao key.length cap0] w fun e w' => e = .returned (.agg (B.map B8).toArray) ∧ Below w.heap.size w w' := fun w h => by rw [hb1 h64]; exact ref02_Of w _ key h hlen
    have hB32 : Len B 32 := by rw [hb1 h64]; exact Len.of (Sha.of_len _)
    clear hb1 hb2
    go_wp2_with (first | ((with_reducible refine gL_buildEmpty hM ?_); refine ⟨_, _, _, (us_of rfl), (el_of rfl), ?_⟩; intro g5 _ hM2; clear hM; have hM := hM2; clear hM2) | ((first | ((with_reducible refine gL_alloc (dst := some 4) hM ?_); refine ⟨_, _, (zr_of rfl), ?_⟩) | ((with_reducible refine gL_box (dst := some 4) hM ?_); refine ⟨_, _, _, rfl, rfl, (by first | assumption | exact Len.map (by assumption) _ | rfl | exact Len.map (by rfl) _ | exact Len.of (by simp; done)), ?_⟩)); intro g4 _ hM2; clear hM; have hM := hM2; clear hM2) |
      (go_at_call 38; have hvw := hM.bytes0 hv; (with_reducible refine (hof _ hvw).mono ?_); clear hvw; rintro _ _ ⟨rfl, B1⟩; replace hM := hM.adds B1; clear B1) |
      ((with_reducible refine gL_store hM ?_); refine ⟨_, _, _, rfl, rfl, hM.stores_all (by (repeat (first | exact .here _ _ _ | apply Has.there)); done) (ag_of rfl) (hB32.map _) (by rfl) B8_one, ?_⟩; intro _ hM2; clear hM; have hM := hM2; clear hM2) |
      ((with_reducible refine gL_slice ?_); refine ⟨_, slice_arr_all (ua_of rfl) (by exact elOne rfl), ?_⟩) |
      ((with_reducible refine gL_append_B hM ?_); refine ⟨_, _, some g5, 0, 0, 5, [], B, 32, fun ob' cap' => [_, ⟨ob', 5, ([] ++ B).map B8, cap'⟩], rfl, rfl, rfl, (us_of rfl), (el_of rfl), hM.src (.head _), fun _ _ => .there _ (.here _ _ _), hl0, hB32, by decide, by omega, ?_⟩; rw [List.nil_append, Nat.zero_add]; intro ob1 cap2 _ hM2 hc1 hc2; clear hM; have hM := hM2; clear hM2))
    have hM0 := hM.drop
    clear hM
    rw [show sl ob1 32 cap2 = sl ob1 B.length cap2 from by rw [hB32.eq]]
    go_loopw [3] (fun p wr => ∃ (j n : Nat) (ob : Option Nat) (cap : Nat), n = B.length + j ∧ n ≤ 64 ∧ p = sl ob n cap ∧ cap ≤ maxLen ∧ Mem [] w0 wr [⟨ob, 5, (B ++ List.replicate j 0).map B8, cap⟩]) (fun p _ => 64 - slLen p)
    case atStart => exact ⟨0, _, ob1, cap2, rfl, by omega, by simp, hc2, by rw [List.replicate_zero, List.append_nil]; exact hM0⟩
    case round =>
      clear hM0 hc1 hc2
      obtain ⟨j, n, ob, cap, hn, hn64, rfl, hcap, hM⟩ := hrel
      have hX : B.length + j = 64 → ∀ _ : Unit, B ++ List.replicate j 0 = K := fun hj _ => by rw [HK (), show j = 64 - B.length from by omega]
      have hl3 : Len (B ++ List.replicate j 0) n := Len.of (by simp; omega)
      have hX1 : ∀ _ : Unit, B ++ List.replicate j 0 ++ [0] = B ++ List.replicate (j + 1) 0 := fun _ => by rw [List.replicate_succ', List.append_assoc]
      generalize B ++ List.replicate j 0 = X at *
      have HN : ∀ _ : Unit, n = B.length + j := fun _ => hn
      clear hn
      by_cases hlt : n < 64
      · have hti : (n : Int) < 64 := by omega
        go_wp2_with (first | ((with_reducible refine gL_append_B hM ?_); refine ⟨_, _, ob, n, cap, 5, X, [0], 1, fun ob' cap' => [_, ⟨ob', 5, (X ++ [0]).map B8, cap'⟩], rfl, rfl, rfl, (us_of rfl), (el_of rfl), hM.src (.head _), fun _ _ => .there _ (.here _ _ _), hl3, rfl, hcap, by omega, ?_⟩; intro ob1 cap1 _ hM2 hd1 hd2; clear hM; have hM := hM2; clear hM2) | go_skip | ((first | (with_reducible refine gL_load ?_) | ((with_reducible refine gG_load ?_ ?_); (exact wanted_of rfl rfl rfl rfl rfl))); refine ⟨_, _, rfl, (by (first | (assumption) | (exact hM.loads_B8 (by (repeat (first | exact .head _ | apply List.Mem.tail)); done) (on_of rfl) (by first | omega | (simp only [Len] at *; omega) | (simp; omega))) | (exact hM.loads_all (by (repeat (first | exact .head _ | apply List.Mem.tail)); done) (ag_of rfl) (by first | assumption | exact Len.map (by assumption) _ | rfl | exact Len.map (by rfl) _ | exact Len.of (by simp; done))) | (exact hM.loads_one (by (repeat (first | exact .head _ | apply List.Mem.tail)); done) (on_of rfl) rfl) | (exact hM.loads_W32 (by (repeat (first | exact .head _ | apply List.Mem.tail)); done) (on_of rfl) (by first | omega | (simp only [Len] at *; omega) | (simp; omega))) | (exact loads_cell (by assumption) (on_of rfl)))), ?_⟩) | ((with_reducible refine gL_store hM ?_); refine ⟨_, _, _, rfl, rfl, (by (first | (exact hM.stores_B8 (by first | exact (rfl : B8 _ = B8 _) | exact lit8 _ (by decide)) (by (repeat (first | exact .here _ _ _ | apply Has.there)); done) (on_of rfl) (by first | omega | (simp only [Len] at *; omega) | (simp; omega))) | (exact hM.stores_all (by (repeat (first | exact .here _ _ _ | apply Has.there)); done) (ag_of rfl) (by first | assumption | exact Len.map (by assumption) _ | rfl | exact Len.map (by rfl) _ | exact Len.of (by simp; done)) (by first | assumption | exact Len.map (by assumption) _ | rfl | exact Len.map (by rfl) _ | exact Len.of (by simp; done)) (by first | exact B8_one | exact W32_one | exact one_of_all rfl)) | (exact hM.stores_W32 rfl (by (repeat (first | exact .here _ _ _ | apply Has.there)); done) (on_of rfl) (by first | omega | (simp only [Len] at *; omega) | (simp; omega))) | (exact hM.stores_one (by (repeat (first | exact .here _ _ _ | apply Has.there)); done) (on_of rfl) (by first | omega | (simp only [Len] at *; omega) | (simp; omega)) rfl rfl))), ?_⟩; intro _ hM2; clear hM; have hM := hM2; clear hM2) | ((with_reducible refine gL_alloc hM ?_); refine ⟨_, _, (zr_of rfl), ?_⟩; intro _ _ hM2; clear hM; have hM := hM2; clear hM2) | ((with_reducible refine gL_box hM ?_); refine ⟨_, _, _, rfl, rfl, (by first | assumption | exact Len.map (by assumption) _ | rfl | exact Len.map (by rfl) _ | exact Len.of (by simp; done)), ?_⟩; intro _ _ hM2; clear hM; have hM := hM2; clear hM2) | ((with_reducible refine gL_build0 ?_); refine ⟨_, _, _, _, _, _, (zr_of rfl), (ua_of rfl), (ag_of rfl), (el_of rfl), ?_⟩) | ((with_reducible refine gL_buildBytes hM ?_); refine ⟨_, _, (us_of rfl), (el_of rfl), (by decide), (by decide), rfl, (by (repeat (first | exact EvB.nil | apply EvB.cons rfl (by first | exact (rfl : B8 _ = B8 _) | exact lit8 _ (by decide)))); done), ?_⟩; intro _ _ hM2; clear hM; have hM := hM2; clear hM2) | ((with_reducible refine gL_append_B hM ?_); refine ⟨_, _, _, _, _, _, _, _, _, _, rfl, rfl, (by first | exact (rfl : Value.slice (some ⟨_, 0, none⟩) _ _ = sl (some _) _ _) | exact (rfl : Value.slice none _ _ = sl none _ _) | rfl), (us_of rfl), (el_of rfl), (by first | exact hM.src (by (repeat (first | exact .head _ | apply List.Mem.tail)); done) | exact (hM.bytes0 (by assumption)).src), (fun _ _ => by (repeat (first | exact .here _ _ _ | apply Swap.there)); done), (by first | assumption | exact Len.map (by assumption) _ | rfl | exact Len.map (by rfl) _ | exact Len.of (by simp; done)), (by first | assumption | exact Len.map (by assumption) _ | rfl | exact Len.map (by rfl) _ | exact Len.of (by simp; done)), (by first | assumption | (simp [maxLen]; done) | omega | (simp [maxLen]; omega)), (by first | omega | (simp only [Len] at *; omega) | (simp; omega)), ?_⟩; intro _ _ _ hM2 _ _; clear hM; have hM := hM2; clear hM2) | ((first | (with_reducible refine gL_field ?_) | ((with_reducible refine gG_field ?_ ?_); (exact wanted_of rfl rfl rfl rfl rfl))); refine ⟨_, _, rfl, (by (first | (exact field_one (fb_of rfl) rfl) | (exact field_agg (fa_of rfl) rfl))), ?_⟩))
        have hM1 := hM.drop
        rw [hX1 ()] at hM1
        go_roundw
        case rel => exact ⟨j + 1, n + 1, ob1, cap1, by have := HN (); omega, by omega, rfl, hd2, hM1⟩
        case measure => simp only [slLen]; omega
      · have hne : n = 64 := by omega
        subst hne
        have hXK := hX (HN ()).symm
        obtain ⟨gp, hgp⟩ := hM.some_of (.head _) (hl3.map B8) (by omega)
        subst hgp
        clear hX hX1 HN
        rw [hXK ()] at hM
        go_wp2
        go_ret
        exact ⟨gp, cap, rfl, hcap, hM⟩
  · have h64i : ¬ (64 : Int) < (key.length : Int) := by omega
    have hBk : B = key := hb2 h64
    have hKl : Len B key.length := by rw [hBk]; rfl
    have hvB : ∀ w, Bytes w (.slice ao key.length cap0) key → Src w (.slice ao key.length cap0) key.length (B.map B8) := fun w h => by rw [hBk]; exact h.src
    have HBk : ∀ _ : Unit, key.length = B.length := fun _ => by rw [hBk]
    clear hBk hb1 hb2
    go_wp2_with (first | ((with_reducible refine gL_buildEmpty hM ?_); refine ⟨_, _, _, (us_of rfl), (el_of rfl), ?_⟩; intro g5 _ hM2; clear hM; have hM := hM2; clear hM2) |
      ((with_reducible refine gL_append_B hM ?_); refine ⟨_, _, some g5, 0, 0, 5, [], B, key.length, fun ob' cap' => [⟨ob', 5, ([] ++ B).map B8, cap'⟩], rfl, rfl, rfl, (us_of rfl), (el_of rfl), hvB _ (hM.bytes0 hv), fun _ _ => .here _ _ _, hl0, hKl, by decide, by omega, ?_⟩; rw [List.nil_append, Nat.zero_add]; intro ob1 cap2 _ hM2 hc1 hc2; clear hM; have hM := hM2; clear hM2))
    have hM0 := hM
    clear hM
    rw [show sl ob1 key.length cap2 = sl ob1 B.length cap2 from by rw [HBk ()]]
    go_loopw [3] (fun p wr => ∃ (j n : Nat) (ob : Option Nat) (cap : Nat), n = B.length + j ∧ n ≤ 64 ∧ p = sl ob n cap ∧ cap ≤ maxLen ∧ Mem [] w0 wr [⟨ob, 5, (B ++ List.replicate j 0).map B8, cap⟩]) (fun p _ => 64 - slLen p)
    case atStart => exact ⟨0, _, ob1, cap2, rfl, by omega, by simp, hc2, by rw [List.replicate_zero, List.append_nil]; exact hM0⟩
    case round =>
      clear hM0 hc1 hc2
      obtain ⟨j, n, ob, cap, hn, hn64, rfl, hcap, hM⟩ := hrel
      have hX : B.length + j = 64 → ∀ _ : Unit, B ++ List.replicate j 0 = K := fun hj _ => by rw [HK (), show j = 64 - B.length from by omega]
      have hl3 : Len (B ++ List.replicate j 0) n := Len.of (by simp; omega)
      have hX1 : ∀ _ : Unit, B ++ List.replicate j 0 ++ [0] = B ++ List.replicate (j + 1) 0 := fun _ => by rw [List.replicate_succ', List.append_assoc]
      generalize B ++ List.replicate j 0 = X at *
      have HN : ∀ _ : Unit, n = B.length + j := fun _ => hn
      clear hn
      by_cases hlt : n < 64
      · have hti : (n : Int) < 64 := by omega
        go_wp2_with (first | ((with_reducible refine gL_append_B hM ?_); refine ⟨_, _, ob, n, cap, 5, X, [0], 1, fun ob' cap' => [_, ⟨ob', 5, (X ++ [0]).map B8, cap'⟩], rfl, rfl, rfl, (us_of rfl), (el_of rfl), hM.src (.head _), fun _ _ => .there _ (.here _ _ _), hl3, rfl, hcap, by omega, ?_⟩; intro ob1 cap1 _ hM2 hd1 hd2; clear hM; have hM := hM2; clear hM2) | go_skip | ((first | (with_reducible refine gL_load ?_) | ((with_reducible refine gG_load ?_ ?_); (exact wanted_of rfl rfl rfl rfl rfl))); refine ⟨_, _, rfl, (by (first | (assumption) | (exact hM.loads_B8 (by (repeat (first | exact .head _ | apply List.Mem.tail)); done) (on_of rfl) (by first | omega | (simp only [Len] at *; omega) | (simp; omega))) | (exact hM.loads_all (by (repeat (first | exact .head _ | apply List.Mem.tail)); done) (ag_of rfl) (by first | assumption | exact Len.map (by assumption) _ | rfl | exact Len.map (by rfl) _ | exact Len.of (by simp; done))) | (exact hM.loads_one (by (repeat (first | exact .head _ | apply List.Mem.tail)); done) (on_of rfl) rfl) | (exact hM.loads_W32 (by (repeat (first | exact .head _ | apply List.Mem.tail)); done) (on_of rfl) (by first | omega | (simp only [Len] at *; omega) | (simp; omega))) | (exact loads_cell (by assumption) (on_of rfl)))), ?_⟩) | ((with_reducible refine gL_store hM ?_); refine ⟨_, _, _, rfl, rfl, (by (first | (exact hM.stores_B8 (by first | exact (rfl : B8 _ = B8 _) | exact lit8 _ (by decide)) (by (repeat (first | exact .here _ _ _ | apply Has.there)); done) (on_of rfl) (by first | omega | (simp only [Len] at *; omega) | (simp; omega))) | (exact hM.stores_all (by (repeat (first | exact .here _ _ _ | apply Has.there)); done) (ag_of rfl) (by first | assumption | exact Len.map (by assumption) _ | rfl | exact Len.map (by rfl) _ | exact Len.of (by simp; done)) (by first | assumption | exact Len.map (by assumption) _ | rfl | exact Len.map (by rfl) _ | exact Len.of (by simp; done)) (by first | exact B8_one | exact W32_one | exact one_of_all rfl)) | (exact hM.stores_W32 rfl (by (repeat (first | exact .here _ _ _ | apply Has.there)); done) (on_of rfl) (by first | omega | (simp only [Len] at *; omega) | (simp; omega))) | (exact hM.stores_one (by (repeat (first | exact .here _ _ _ | apply Has.there)); done) (on_of rfl) (by first | omega | (simp only [Len] at *; omega) | (simp; omega)) rfl rfl))), ?_⟩; intro _ hM2; clear hM; have hM := hM2; clear hM2) | ((with_reducible refine gL_alloc hM ?_); refine ⟨_, _, (zr_of rfl), ?_⟩; intro _ _ hM2; clear hM; have hM := hM2; clear hM2) | ((with_reducible refine gL_box hM ?_); refine ⟨_, _, _, rfl, rfl, (by first | assumption | exact Len.map (by assumption) _ | rfl | exact Len.map (by rfl) _ | exact Len.of (by simp; done)), ?_⟩; intro _ _ hM2; clear hM; have hM := hM2; clear hM2) | ((with_reducible refine gL_build0 ?_); refine ⟨_, _, _, _, _, _, (zr_of rfl), (ua_of rfl), (ag_of rfl), (el_of rfl), ?_⟩) | ((with_reducible refine gL_buildBytes hM ?_); refine ⟨_, _, (us_of rfl), (el_of rfl), (by decide), (by decide), rfl, (by (repeat (first | exact EvB.nil | apply EvB.cons rfl (by first | exact (rfl : B8 _ = B8 _) | exact lit8 _ (by decide)))); done), ?_⟩; intro _ _ hM2; clear hM; have hM := hM2; clear hM2) | ((with_reducible refine gL_append_B hM ?_); refine ⟨_, _, _, _, _, _, _, _, _, _, rfl, rfl, (by first | exact (rfl : Value.slice (some ⟨_, 0, none⟩) _ _ = sl (some _) _ _) | exact (rfl : Value.slice none _ _ = sl none _ _) | rfl), (us_of rfl), (el_of rfl), (by first | exact hM.src (by (repeat (first | exact .head _ | apply List.Mem.tail)); done) | exact (hM.bytes0 (by assumption)).src), (fun _ _ => by (repeat (first | exact .here _ _ _ | apply Swap.there)); done), (by first | assumption | exact Len.map (by assumption) _ | rfl | exact Len.map (by rfl) _ | exact Len.of (by simp; done)), (by first | assumption | exact Len.map (by assumption) _ | rfl | exact Len.map (by rfl) _ | exact Len.of (by simp; done)), (by first | assumption | (simp [maxLen]; done) | omega | (simp [maxLen]; omega)), (by first | omega | (simp only [Len] at *; omega) | (simp; omega)), ?_⟩; intro _ _ _ hM2 _ _; clear hM; have hM := hM2; clear hM2) | ((first | (with_reducible refine gL_field ?_) | ((with_reducible refine gG_field ?_ ?_); (exact wanted_of rfl rfl rfl rfl rfl))); refine ⟨_, _, rfl, (by (first | (exact field_one (fb_of rfl) rfl) | (exact field_agg (fa_of rfl) rfl))), ?_⟩))
        have hM1 := hM.drop
        rw [hX1 ()] at hM1
        go_roundw
        case rel => exact ⟨j + 1, n + 1, ob1, cap1, by have := HN (); omega, by omega, rfl, hd2, hM1⟩
        case measure => simp only [slLen]; omega
      · have hne : n = 64 := by omega
        subst hne
        have hXK := hX (HN ()).symm
        obtain ⟨gp, hgp⟩ := hM.some_of (.head _) (hl3.map B8) (by omega)
        subst hgp
        clear hX hX1 HN
        rw [hXK ()] at hM
        go_wp2
        go_ret
        exact ⟨gp, cap, rfl, hcap, hM⟩
end Go.Proofs.YtejmbkljnhnklaaDoor
namespace Go.Proofs.YtejmbkljnhnklaaDoor
open Go.RowKit Go.PK
set_option maxRecDepth 100000 in
set_option maxHeartbeats 4000000 in
theorem ref03_Of (w0 : World) (v1 v2 : Value) (key m : List UInt8) (hv1 : Bytes w0 v1 key) (hv2 : Bytes w0 v2 m) (h1 : key.length ≤ 140737488355000) (h2 : m.length ≤ 140737488354900) (T : List UInt8) (hT : Mac.tag key m = T) :
    Calls Tryd.prog 20 #[v1, v2] w0 fun e w' => e = .returned (.agg (T.map B8).toArray) ∧ Below w0.heap.size w0 w' := by
  have hTl : Len T 32 := by rw [← hT]; exact Len.of (Mac.tag_len _ _)
  obtain ⟨K, hK⟩ : ∃ K, Mac.block key = K := ⟨_, rfl⟩
  have hKl : Len K 64 := by rw [← hK]; exact Len.of (Mac.block_len _)
  obtain ⟨I, hI⟩ : ∃ I, Mac.over K 0x36 = I := ⟨_, rfl⟩
  have hIl : Len I 64 := by rw [← hI]; exact Len.of (by rw [Mac.over_len, hKl.eq])
  obtain ⟨O, hO⟩ : ∃ O, Mac.over K 0x5C = O := ⟨_, rfl⟩
  have hOl : Len O 64 := by rw [← hO]; exact Len.of (by rw [Mac.over_len, hKl.eq])
  obtain ⟨H, hH⟩ : ∃ H, Sha.of (I ++ m) = H := ⟨_, rfl⟩
  have hHl : Len H 32 := by rw [← hH]; exact Len.of (Sha.of_len _)
  have hTO : Sha.of (O ++ H) = T := by rw [← hT, ← hH, ← hI, ← hO, ← hK]; rfl
  have hsh1 : ∀ w v, Bytes w v (I ++ m) → Calls Tryd.prog 38 #[v] w fun e w' => e = .returned (.agg (H.map B8).toArray) ∧ Below w.heap.size w w' := fun w v h => by
    rw [← hH]
    exact ref02_Of w v _ h (by rw [List.length_append, hIl.eq]; omega)
  have hsh2 : ∀ w v, Bytes w v (O ++ H) → Calls Tryd.prog 38 #[v] w fun e w' => e = .returned (.agg (T.map B8).toArray) ∧ Below w.heap.size w w' := fun w v h => by
    rw [← hTO]
    exact ref02_Of w v _ h (by rw [List.length_append, hOl.eq, hHl.eq]; omega)
  have hov : ∀ w v x R, Mac.over K x = R → Bytes w v K → Calls Tryd.prog 37 #[v, B8 x] w fun e w' => ∃ g cap, e = .returned (.slice (some ⟨g, 0, none⟩) 64 cap) ∧ cap ≤ maxLen ∧ Mem [] w w' [⟨some g, 5, R.map B8, cap⟩] := fun w v x R hR h => by
    have := ref03_over w v K h x (by rw [hKl.eq]; omega) R hR
    rwa [hKl.eq] at this
  have hblk : ∀ w, Bytes w v1 key → _ := fun w h => ref03_block w v1 key h h1 K hK
  have hov1 : ∀ w v, Bytes w v K → _ := fun w v h => hov w v 0x36 I hI h
  have hov2 : ∀ w v, Bytes w v K → _ := fun w v h => hov w v 0x5C O hO h
  clear hT hK hI hO hH hTO hov
  have hM := Mem.start w0
  have hmf : ∃ ao cap, v2 = .slice ao m.length cap := by
    obtain ⟨ao, cap, h, -⟩ := id hv2
    exact ⟨ao, cap, h⟩
  obtain ⟨ao2, cap2, rfl⟩ := hmf
  have hml : Len m m.length := Len.of rfl
  have hIm : Len (I ++ m) (64 + m.length) := Len.of (by rw [List.length_append, hIl.eq])
  have hOH : Len (O ++ H) 96 := Len.of (by rw [List.length_append, hOl.eq, hHl.eq])
  go_enter Tryd.func20, Tryd.ntmps20
  go_wp2_with (first | ((first | ((with_reducible refine gL_alloc (dst := some 4) hM ?_); refine ⟨_, _, (zr_of rfl), ?_⟩) | ((with_reducible refine gL_box (dst := some 4) hM ?_); refine ⟨_, _, _, rfl, rfl, (by first | assumption | exact Len.map (by assumption) _ | rfl | exact Len.map (by rfl) _ | exact Len.of (by simp; done)), ?_⟩)); intro g4 _ hM2; clear hM; have hM := hM2; clear hM2) | (go_at_call 36; have hvw := hM.bytes0 hv1; (with_reducible refine (hblk _ hvw).mono ?_); clear hvw; rintro _ _ ⟨gk, capk, rfl, hck, hM3⟩; replace hM := hM.addNew hM3.done (hM3.holds _ (.head _)) (hM3.mem_new (.head _)); clear hM3))
  have hvk : Bytes _ (.slice (some ⟨gk, 0, none⟩) 64 capk) K := hM.whole (ob := some gk) (.head _) hKl (by simpa [maxLen] using hck)
  refine (hov1 _ _ hvk).mono ?_
  rintro _ w3 ⟨gi, capi, rfl, hci, hM3⟩
  replace hM := hM.addNew hM3.done (hM3.holds _ (.head _)) (hM3.mem_new (.head _))
  clear hM3 hvk
  go_wp2_with (first | ((with_reducible refine gL_append_B hM ?_); refine ⟨_, _, some gi, 64, capi, 5, I, m, m.length, fun ob' cap' => [⟨ob', 5, (I ++ m).map B8, cap'⟩, _, _], rfl, rfl, rfl, (us_of rfl), (el_of rfl), (hM.bytes0 hv2).src, fun _ _ => .here _ _ _, hIl, hml, hci, by omega, ?_⟩; intro ob6 cap6 _ hM2 hc1 hc2; clear hM; have hM := hM2; clear hM2; (obtain ⟨g6, hg6⟩ := hM.some_of (.head _) (hIm.map B8) (by omega)); subst hg6))
  have hvi : Bytes _ (.slice (some ⟨g6, 0, none⟩) (64 + m.length) cap6) (I ++ m) := hM.whole (ob := some g6) (.head _) hIm (by simpa [maxLen] using hc2)
  refine (hsh1 _ _ hvi).mono ?_
  rintro _ w4 ⟨rfl, B1⟩
  replace hM := hM.adds B1
  clear B1 hvi
  go_wp2_with (first | ((first | ((with_reducible refine gL_alloc (dst := some 7) hM ?_); refine ⟨_, _, (zr_of rfl), ?_⟩) | ((with_reducible refine gL_box (dst := some 7) hM ?_); refine ⟨_, _, _, rfl, rfl, (by first | assumption | exact Len.map (by assumption) _ | rfl | exact Len.map (by rfl) _ | exact Len.of (by simp; done)), ?_⟩)); intro g7 _ hM2; clear hM; have hM := hM2; clear hM2) | ((with_reducible refine gL_store hM ?_); refine ⟨_, _, _, rfl, rfl, hM.stores_all (by (repeat (first | exact .here _ _ _ | apply Has.there)); done) (ag_of rfl) (hHl.map _) (by rfl) B8_one, ?_⟩; intro w8 hM2; clear hM; have hM := hM2; clear hM2))
  try simp only [Act.put, List.setIfInBounds_toArray, List.set_cons_succ, List.set_cons_zero]
  refine wp_region_tail 3 (by decide) (fun c vals => ⟨#[c 0, c 1, c 2, c 3, c 4, (Value.slice (some ⟨gk, 0, none⟩) 64 capk : Value), c 6, (Value.pointer (some ⟨g7, 0, none⟩) : Value), c 8, c 9, c 10, c 11, c 12, c 13, c 14, c 15, c 16, vals 0, vals 1, vals 2, c 20, c 21, c 22], []⟩) (fun t => [_, _, _, _, _, undef, _, undef, _, _, _, _, _, _, _, _, _, undef, undef, undef, _, _, _].getD t undef) (fun i => [_, _, _].getD i undef) (by kernel_rfl)
    [[], [0], [], [0, 1, 2], [0, 1, 2, 3]] (by kernel_rfl) (by kernel_rfl) (fun _ => True) trivial
    [fun x _ => x = (Value.slice (some ⟨gk, 0, none⟩) 64 capk : Value),
     fun (xx : Value) (ww : World) => ∃ g cap, xx = Value.slice (some ⟨g, 0, none⟩) 64 cap ∧ cap ≤ maxLen ∧ w8.heap.size ≤ g ∧ (Blk.mk (some g) 5 (O.map B8) cap).holds ww,
     fun x _ => x = (Value.slice (some ⟨g7, 0, none⟩) 32 32 : Value)]
    ⟨fun _ _ _ h _ => h, fun _ _ _ ⟨g, cap, h1, h2, h3, h4⟩ hb => ⟨g, cap, h1, h2, h3, h4.adds hb⟩, fun _ _ _ h _ => h, trivial⟩ []
    ⟨?_, ?_, ?_, trivial⟩ ?_
  · refine showA_op 0 (by intro _ _ _; kernel_rfl) rfl rfl (fun c vals w hC hD => ?_)
    clear hD
    refine makes1 (x := .tmp 5) (X := Value.slice (some ⟨gk, 0, none⟩) 64 capk) (by kernel_rfl : _ = (Value.slice (some ⟨gk, 0, none⟩) 64 capk : Value)) (fun ρ rc rf q5 => ?_)
    exact makes_move (.inl rfl) q5 ⟨Adds.refl _, rfl⟩
  · refine showA_op 1 (by intro _ _ _; kernel_rfl) rfl rfl (fun c vals w hC hD => ?_)
    have h0 : vals 0 = .slice (some ⟨gk, 0, none⟩) 64 capk := hD 0 rfl
    clear hD
    refine makes1 (x := .tmp 17) (X := Value.slice (some ⟨gk, 0, none⟩) 64 capk) ((by kernel_rfl : _ = vals 0).trans h0) (fun ρ rc rf q17 => ?_)
    clear h0
    refine makes_call (hov2 _ (.slice (some ⟨gk, 0, none⟩) 64 capk) ((hM.adds hC).whole (ob := some gk) (.tail _ (.tail _ (.head _))) hKl (by simpa [maxLen] using hck))) ?_ (by rintro e w' ⟨g, cap, rfl, hcc, hM3⟩; exact ⟨_, rfl, hM3.done, g, cap, rfl, hcc, Nat.le_trans hC.size (hM3.mem_new (.head _)), hM3.holds _ (.head _)⟩)
    go_simp
    all_goals first | done | rfl | exact lit8 _ (by decide)
  · refine showA_op 2 (by intro _ _ _; kernel_rfl) rfl rfl (fun c vals w hC hD => ?_)
    clear hD
    refine makes1 (x := .tmp 7) (X := Value.pointer (some ⟨g7, 0, none⟩)) (by kernel_rfl : _ = (Value.pointer (some ⟨g7, 0, none⟩) : Value)) (fun ρ rc rf q7 => ?_)
    exact makes_slice (slice_arr_all (t := 25) (ua_of rfl) (by exact elOne rfl)) rfl q7 rfl rfl rfl ⟨Adds.refl _, rfl⟩
  intro vals w' hC hΦ hne
  have h1 : (fun (xx : Value) (ww : World) => ∃ g cap, xx = Value.slice (some ⟨g, 0, none⟩) 64 cap ∧ cap ≤ maxLen ∧ w8.heap.size ≤ g ∧ (Blk.mk (some g) 5 (O.map B8) cap).holds ww) (vals 1) w' := hΦ 1 (by decide)
  have h2 : vals 2 = .slice (some ⟨g7, 0, none⟩) 32 32 := hΦ 2 (by decide)
  clear hΦ hne
  simp only [List.getD_eq_getElem?_getD, List.getElem?_cons_zero, List.getElem?_cons_succ, Option.getD_some, List.drop_succ_cons, List.drop_zero]
  simp only [h2]
  clear h2
  try simp only [tuple_undef]
  obtain ⟨go, capo, eo, hco, lo, hho⟩ := h1
  simp only [eo]
  clear eo
  replace hM := hM.addNew hC hho lo
  clear hC hho lo
  go_wp2_with (first | ((with_reducible refine gL_append_B hM ?_); refine ⟨_, _, some go, 64, capo, 5, O, H, 32, fun ob' cap' => ⟨ob', 5, (O ++ H).map B8, cap'⟩ :: _, rfl, rfl, rfl, (us_of rfl), (el_of rfl), hM.src (.tail _ (.head _)), fun _ _ => .here _ _ _, hOl, hHl, hco, by omega, ?_⟩; intro ob9 cap9 _ hM2 hd1 hd2; clear hM; have hM := hM2; clear hM2; (obtain ⟨g9, hg9⟩ := hM.some_of (.head _) (hOH.map B8) (by omega)); subst hg9))
  have hvo : Bytes _ (.slice (some ⟨g9, 0, none⟩) 96 cap9) (O ++ H) := hM.whole (ob := some g9) (.head _) hOH (by simpa [maxLen] using hd2)
  refine (hsh2 _ _ hvo).mono ?_
  rintro _ w9 ⟨rfl, B1⟩
  replace hM := hM.adds B1
  clear B1 hvo
  go_wp2_with (first | ((with_reducible refine gL_store hM ?_); refine ⟨_, _, _, rfl, rfl, hM.stores_all (by (repeat (first | exact .here _ _ _ | apply Has.there)); done) (ag_of rfl) (hTl.map _) (by rfl) B8_one, ?_⟩; intro _ hM2; clear hM; have hM := hM2; clear hM2))
  exact hM.ret_cell rfl rfl rfl (by (repeat (first | exact .head _ | apply List.Mem.tail)); done) (ag_of rfl) (hTl.map _) ⟨rfl, hM.done⟩
end Go.Proofs.YtejmbkljnhnklaaDoor
