/-
  The walk of the reference of layer 2: padded.
  The walk of the reference of layer 2: Of.
  Equality of two hashes.
  The walks of layer 2's 'fixed', and of ShaHashes.
  Tags of bytes under keys, as plain functions; nothing of the program.
  A tag that is known, reckoned by the kernel.
  The walks of the two Equals.
-/
import Derived.Test.YtejmbkljnhnklaaPc
import Derived.Test.YtejmbkljnhnklaaPd
import Derived.Test.YtejmbkljnhnklaaPb
namespace Go.Proofs.Ytejmbkljnhnklaa
open Go.RowKit Go.PK
theorem _root_.Go.PK.Mem.sub {G : List Nat} {w0 w : World} {L L' : List Blk} (hM : Mem G w0 w L) (h : L'.Sublist L) : Mem G w0 w L' :=
  ⟨hM.touch, fun b hb => hM.holds b (h.subset hb), fun b hb => hM.own b (h.subset hb), (h.filterMap _).nodup hM.nodup⟩
set_option maxRecDepth 100000 in
set_option maxHeartbeats 4000000 in
theorem ref02_padded (w0 : World) (v : Value) (l : List UInt8) (hv : Bytes w0 v l) (hlen : l.length ≤ 140737488355000) :
    Calls Try.prog 62 #[v] w0 fun e w' => ∃ gp n cap, e = .returned (.slice (some ⟨gp, 0, none⟩) n cap) ∧ Len (Sha.padded l) n ∧ cap ≤ maxLen ∧ Mem [] w0 w' [⟨some gp, 5, (Sha.padded l).map B8, cap⟩] := by
  have hM : Mem [] w0 w0 [⟨none, 5, ([] : List UInt8).map B8, 0⟩] := (Mem.start w0).addNil 5
  have hll : Len l l.length := Len.of rfl
  have hl0 : Len ([] : List UInt8) 0 := rfl
  have hl1 : ∀ x : UInt8, Len [x] 1 := fun _ => rfl
  have hvl : ∃ ao cap0, v = .slice ao l.length cap0 := by
    obtain ⟨ao, cap, rfl, -⟩ := id hv
    exact ⟨ao, cap, rfl⟩
  obtain ⟨ao, cap0, rfl⟩ := hvl
  go_enter Try.func62, Try.ntmps62
  go_wp2_with (first | ((with_reducible refine gL_append_B hM ?_); refine ⟨_, _, none, 0, 0, 5, [], l, l.length, fun ob' cap' => [⟨ob', 5, ([] ++ l).map B8, cap'⟩], rfl, rfl, rfl, (us_of rfl), (el_of rfl), (hM.bytes0 hv).src, fun _ _ => .here _ _ _, hl0, hll, by decide, by omega, ?_⟩; intro ob1 cap1 _ hM2 hc1 hc2; clear hM; have hM := hM2; clear hM2) | go_skip | ((first | (with_reducible refine gL_load ?_) | ((with_reducible refine gG_load ?_ ?_); (exact wanted_of rfl rfl rfl rfl rfl))); refine ⟨_, _, rfl, (by (first | (assumption) | (exact hM.loads_B8 (by (repeat (first | exact .head _ | apply List.Mem.tail)); done) (on_of rfl) (by first | omega | (simp only [Len] at *; omega) | (simp; omega))) | (exact hM.loads_all (by (repeat (first | exact .head _ | apply List.Mem.tail)); done) (ag_of rfl) (by first | assumption | exact Len.map (by assumption) _ | rfl | exact Len.map (by rfl) _ | exact Len.of (by simp; done))) | (exact hM.loads_one (by (repeat (first | exact .head _ | apply List.Mem.tail)); done) (on_of rfl) rfl) | (exact hM.loads_W32 (by (repeat (first | exact .head _ | apply List.Mem.tail)); done) (on_of rfl) (by first | omega | (simp only [Len] at *; omega) | (simp; omega))) | (exact loads_cell (by assumption) (on_of rfl)))), ?_⟩) | ((with_reducible refine gL_store hM ?_); refine ⟨_, _, _, rfl, rfl, (by (first | (exact hM.stores_B8 (by first | exact (rfl : B8 _ = B8 _) | exact lit8 _ (by decide)) (by (repeat (first | exact .here _ _ _ | apply Has.there)); done) (on_of rfl) (by first | omega | (simp only [Len] at *; omega) | (simp; omega))) | (exact hM.stores_all (by (repeat (first | exact .here _ _ _ | apply Has.there)); done) (ag_of rfl) (by first | assumption | exact Len.map (by assumption) _ | rfl | exact Len.map (by rfl) _ | exact Len.of (by simp; done)) (by first | assumption | exact Len.map (by assumption) _ | rfl | exact Len.map (by rfl) _ | exact Len.of (by simp; done)) (by first | exact B8_one | exact W32_one | exact one_of_all rfl)) | (exact hM.stores_W32 rfl (by (repeat (first | exact .here _ _ _ | apply Has.there)); done) (on_of rfl) (by first | omega | (simp only [Len] at *; omega) | (simp; omega))) | (exact hM.stores_one (by (repeat (first | exact .here _ _ _ | apply Has.there)); done) (on_of rfl) (by first | omega | (simp only [Len] at *; omega) | (simp; omega)) rfl rfl))), ?_⟩; intro _ hM2; clear hM; have hM := hM2; clear hM2) | ((with_reducible refine gL_alloc hM ?_); refine ⟨_, _, (zr_of rfl), ?_⟩; intro _ _ hM2; clear hM; have hM := hM2; clear hM2) | ((with_reducible refine gL_box hM ?_); refine ⟨_, _, _, rfl, rfl, (by first | assumption | exact Len.map (by assumption) _ | rfl | exact Len.map (by rfl) _ | exact Len.of (by simp; done)), ?_⟩; intro _ _ hM2; clear hM; have hM := hM2; clear hM2) | ((with_reducible refine gL_build0 ?_); refine ⟨_, _, _, _, _, _, (zr_of rfl), (ua_of rfl), (ag_of rfl), (el_of rfl), ?_⟩) | ((with_reducible refine gL_buildBytes hM ?_); refine ⟨_, _, (us_of rfl), (el_of rfl), (by decide), (by decide), rfl, (by (repeat (first | exact EvB.nil | apply EvB.cons rfl (by first | exact (rfl : B8 _ = B8 _) | exact lit8 _ (by decide)))); done), ?_⟩; intro _ _ hM2; clear hM; have hM := hM2; clear hM2) | ((with_reducible refine gL_append_B hM ?_); refine ⟨_, _, _, _, _, _, _, _, _, _, rfl, rfl, (by first | exact (rfl : Value.slice (some ⟨_, 0, none⟩) _ _ = sl (some _) _ _) | exact (rfl : Value.slice none _ _ = sl none _ _) | rfl), (us_of rfl), (el_of rfl), (by first | exact hM.src (by (repeat (first | exact .head _ | apply List.Mem.tail)); done) | exact (hM.bytes0 (by assumption)).src), (fun _ _ => by (repeat (first | exact .here _ _ _ | apply Swap.there)); done), (by first | assumption | exact Len.map (by assumption) _ | rfl | exact Len.map (by rfl) _ | exact Len.of (by simp; done)), (by first | assumption | exact Len.map (by assumption) _ | rfl | exact Len.map (by rfl) _ | exact Len.of (by simp; done)), (by first | assumption | (simp [maxLen]; done) | omega | (simp [maxLen]; omega)), (by first | omega | (simp only [Len] at *; omega) | (simp; omega)), ?_⟩; intro _ _ _ hM2 _ _; clear hM; have hM := hM2; clear hM2) | ((first | (with_reducible refine gL_field ?_) | ((with_reducible refine gG_field ?_ ?_); (exact wanted_of rfl rfl rfl rfl rfl))); refine ⟨_, _, rfl, (by (first | (exact field_one (fb_of rfl) rfl) | (exact field_agg (fa_of rfl) rfl))), ?_⟩))
  have hXl : Len ([] ++ l ++ [128]) (l.length + 1) := Len.of (by simp)
  obtain ⟨gp, hgp⟩ := hM.some_of (.tail _ (.head _)) (hXl.map B8) (by omega)
  subst hgp
  have hM0 : Mem [] w0 _ [⟨some gp, 5, (l ++ 128 :: List.replicate 0 0).map B8, _⟩] := hM.sub (by repeat (first | exact List.nil_sublist _ | apply List.Sublist.cons_cons | apply List.Sublist.cons))
  clear hM hXl
  have hM := hM0
  clear hM0
  obtain ⟨z, hz⟩ : ∃ z, z = Sha.zeros l.length := ⟨_, rfl⟩
  have hz64 : z < 64 := by rw [hz]; exact Sha.zeros_lt _
  have hzm : (l.length + 1 + z) % 64 = 56 := by rw [hz]; unfold Sha.zeros; omega
  have HZ : ∀ _ : Unit, z = Sha.zeros l.length := fun _ => hz
  clear hz
  rw [sl_some]
  go_loopw [3] (fun p wr => ∃ j n gp cap, j ≤ z ∧ n = l.length + 1 + j ∧ p = .slice (some ⟨gp, 0, none⟩) n cap ∧ cap ≤ maxLen ∧ Mem [] w0 wr [⟨some gp, 5, (l ++ 128 :: List.replicate j 0).map B8, cap⟩]) (fun p _ => l.length + 1 + z - slLen p)
  case atStart => exact ⟨0, _, gp, _, by omega, rfl, rfl, by assumption, hM⟩
  case round =>
    clear hM
    obtain ⟨j, n, gp, cap, hj, hn, rfl, hcap, hM⟩ := hrel
    have hl3 : Len (l ++ 128 :: List.replicate j 0) n := Len.of (by simp; omega)
    generalize hX : l ++ 128 :: List.replicate j 0 = X at *
    have HX : ∀ _ : Unit, l ++ 128 :: List.replicate j 0 = X := fun _ => hX
    clear hX
    have hnn : n ≤ l.length + 1 + z := by omega
    have hX1 : ∀ _ : Unit, X ++ [0] = l ++ 128 :: List.replicate (j + 1) 0 := fun _ => by rw [← HX (), List.replicate_succ']; simp
    by_cases hlt : j < z
    · have h56 : ¬ (n : Int) % 64 = 56 := by omega
      have hnb : n ≤ 140737488355200 := by omega
      have hnj : n = l.length + 1 + j := hn
      have HN : ∀ _ : Unit, n = l.length + 1 + j := fun _ => hnj
      clear hn hnj
      go_wp2_with (first | ((with_reducible refine gL_append_B hM ?_); refine ⟨_, _, some gp, n, cap, 5, X, [0], 1, fun ob' cap' => [_, ⟨ob', 5, (X ++ [0]).map B8, cap'⟩], rfl, rfl, rfl, (us_of rfl), (el_of rfl), hM.src (.head _), fun _ _ => .there _ (.here _ _ _), hl3, rfl, hcap, by omega, ?_⟩; intro ob1 cap1 _ hM2 hd1 hd2; clear hM; have hM := hM2; clear hM2) | go_skip | ((first | (with_reducible refine gL_load ?_) | ((with_reducible refine gG_load ?_ ?_); (exact wanted_of rfl rfl rfl rfl rfl))); refine ⟨_, _, rfl, (by (first | (assumption) | (exact hM.loads_B8 (by (repeat (first | exact .head _ | apply List.Mem.tail)); done) (on_of rfl) (by first | omega | (simp only [Len] at *; omega) | (simp; omega))) | (exact hM.loads_all (by (repeat (first | exact .head _ | apply List.Mem.tail)); done) (ag_of rfl) (by first | assumption | exact Len.map (by assumption) _ | rfl | exact Len.map (by rfl) _ | exact Len.of (by simp; done))) | (exact hM.loads_one (by (repeat (first | exact .head _ | apply List.Mem.tail)); done) (on_of rfl) rfl) | (exact hM.loads_W32 (by (repeat (first | exact .head _ | apply List.Mem.tail)); done) (on_of rfl) (by first | omega | (simp only [Len] at *; omega) | (simp; omega))) | (exact loads_cell (by assumption) (on_of rfl)))), ?_⟩) | ((with_reducible refine gL_store hM ?_); refine ⟨_, _, _, rfl, rfl, (by (first | (exact hM.stores_B8 (by first | exact (rfl : B8 _ = B8 _) | exact lit8 _ (by decide)) (by (repeat (first | exact .here _ _ _ | apply Has.there)); done) (on_of rfl) (by first | omega | (simp only [Len] at *; omega) | (simp; omega))) | (exact hM.stores_all (by (repeat (first | exact .here _ _ _ | apply Has.there)); done) (ag_of rfl) (by first | assumption | exact Len.map (by assumption) _ | rfl | exact Len.map (by rfl) _ | exact Len.of (by simp; done)) (by first | assumption | exact Len.map (by assumption) _ | rfl | exact Len.map (by rfl) _ | exact Len.of (by simp; done)) (by first | exact B8_one | exact W32_one | exact one_of_all rfl)) | (exact hM.stores_W32 rfl (by (repeat (first | exact .here _ _ _ | apply Has.there)); done) (on_of rfl) (by first | omega | (simp only [Len] at *; omega) | (simp; omega))) | (exact hM.stores_one (by (repeat (first | exact .here _ _ _ | apply Has.there)); done) (on_of rfl) (by first | omega | (simp only [Len] at *; omega) | (simp; omega)) rfl rfl))), ?_⟩; intro _ hM2; clear hM; have hM := hM2; clear hM2) | ((with_reducible refine gL_alloc hM ?_); refine ⟨_, _, (zr_of rfl), ?_⟩; intro _ _ hM2; clear hM; have hM := hM2; clear hM2) | ((with_reducible refine gL_box hM ?_); refine ⟨_, _, _, rfl, rfl, (by first | assumption | exact Len.map (by assumption) _ | rfl | exact Len.map (by rfl) _ | exact Len.of (by simp; done)), ?_⟩; intro _ _ hM2; clear hM; have hM := hM2; clear hM2) | ((with_reducible refine gL_build0 ?_); refine ⟨_, _, _, _, _, _, (zr_of rfl), (ua_of rfl), (ag_of rfl), (el_of rfl), ?_⟩) | ((with_reducible refine gL_buildBytes hM ?_); refine ⟨_, _, (us_of rfl), (el_of rfl), (by decide), (by decide), rfl, (by (repeat (first | exact EvB.nil | apply EvB.cons rfl (by first | exact (rfl : B8 _ = B8 _) | exact lit8 _ (by decide)))); done), ?_⟩; intro _ _ hM2; clear hM; have hM := hM2; clear hM2) | ((with_reducible refine gL_append_B hM ?_); refine ⟨_, _, _, _, _, _, _, _, _, _, rfl, rfl, (by first | exact (rfl : Value.slice (some ⟨_, 0, none⟩) _ _ = sl (some _) _ _) | exact (rfl : Value.slice none _ _ = sl none _ _) | rfl), (us_of rfl), (el_of rfl), (by first | exact hM.src (by (repeat (first | exact .head _ | apply List.Mem.tail)); done) | exact (hM.bytes0 (by assumption)).src), (fun _ _ => by (repeat (first | exact .here _ _ _ | apply Swap.there)); done), (by first | assumption | exact Len.map (by assumption) _ | rfl | exact Len.map (by rfl) _ | exact Len.of (by simp; done)), (by first | assumption | exact Len.map (by assumption) _ | rfl | exact Len.map (by rfl) _ | exact Len.of (by simp; done)), (by first | assumption | (simp [maxLen]; done) | omega | (simp [maxLen]; omega)), (by first | omega | (simp only [Len] at *; omega) | (simp; omega)), ?_⟩; intro _ _ _ hM2 _ _; clear hM; have hM := hM2; clear hM2) | ((first | (with_reducible refine gL_field ?_) | ((with_reducible refine gG_field ?_ ?_); (exact wanted_of rfl rfl rfl rfl rfl))); refine ⟨_, _, rfl, (by (first | (exact field_one (fb_of rfl) rfl) | (exact field_agg (fa_of rfl) rfl))), ?_⟩))
      have hl4 : Len (X ++ [0]) (n + 1) := Len.of (by rw [List.length_append, hl3.eq]; rfl)
      obtain ⟨gq, hgq⟩ := hM.some_of (.tail _ (.head _)) (hl4.map B8) (by omega)
      subst hgq
      go_roundw
      case rel =>
        refine ⟨j + 1, n + 1, gq, cap1, by omega, by have := HN (); omega, rfl, hd2, ?_⟩
        rw [← hX1 ()]
        exact hM.sub (by repeat (first | exact List.nil_sublist _ | apply List.Sublist.cons_cons | apply List.Sublist.cons))
      case measure => have := HN (); simp only [slLen]; omega
    · have h56 : (n : Int) % 64 = 56 := by omega
      have hjz : j = z := by omega
      subst hjz
      have hnb : n ≤ 140737488355200 := by omega
      have HN : ∀ _ : Unit, n = l.length + 1 + j := fun _ => hn
      clear hn hnn hX1 hlt hj
      obtain ⟨u, hu⟩ : ∃ u, u = UInt64.ofNat l.length := ⟨_, rfl⟩
      have hu1 : UInt64.ofInt (l.length : Int) = u := by rw [hu, ofInt64_nat]
      have HB : ∀ k, k < 8 → (Sha.be64 (8 * u)).take (k + 1) = (Sha.be64 (8 * u)).take k ++ [(shr64 (8 * u) (56 - 8 * k)).toUInt8] := fun k hk => by
        rw [List.take_succ_eq_append_getElem (by rw [Sha.be64_len]; exact hk)]
        congr 2
        unfold Sha.be64
        rw [List.getElem_map, List.getElem_range]
      have HF : ∀ _ : Unit, X ++ (Sha.be64 (8 * u)).take 8 = Sha.padded l := fun _ => by
        rw [List.take_of_length_le (by rw [Sha.be64_len]; exact Nat.le_refl _), ← HX (), HZ (), hu, Sha.padded, Sha.ending]
        simp
      have hbl8 : (Sha.be64 (8 * u)).length = 8 := Sha.be64_len _
      clear hu
      go_wp2_with (first | go_skip | ((first | (with_reducible refine gL_load ?_) | ((with_reducible refine gG_load ?_ ?_); (exact wanted_of rfl rfl rfl rfl rfl))); refine ⟨_, _, rfl, (by (first | (assumption) | (exact hM.loads_B8 (by (repeat (first | exact .head _ | apply List.Mem.tail)); done) (on_of rfl) (by first | omega | (simp only [Len] at *; omega) | (simp; omega))) | (exact hM.loads_all (by (repeat (first | exact .head _ | apply List.Mem.tail)); done) (ag_of rfl) (by first | assumption | exact Len.map (by assumption) _ | rfl | exact Len.map (by rfl) _ | exact Len.of (by simp; done))) | (exact hM.loads_one (by (repeat (first | exact .head _ | apply List.Mem.tail)); done) (on_of rfl) rfl) | (exact hM.loads_W32 (by (repeat (first | exact .head _ | apply List.Mem.tail)); done) (on_of rfl) (by first | omega | (simp only [Len] at *; omega) | (simp; omega))) | (exact loads_cell (by assumption) (on_of rfl)))), ?_⟩) | ((with_reducible refine gL_store hM ?_); refine ⟨_, _, _, rfl, rfl, (by (first | (exact hM.stores_B8 (by first | exact (rfl : B8 _ = B8 _) | exact lit8 _ (by decide)) (by (repeat (first | exact .here _ _ _ | apply Has.there)); done) (on_of rfl) (by first | omega | (simp only [Len] at *; omega) | (simp; omega))) | (exact hM.stores_all (by (repeat (first | exact .here _ _ _ | apply Has.there)); done) (ag_of rfl) (by first | assumption | exact Len.map (by assumption) _ | rfl | exact Len.map (by rfl) _ | exact Len.of (by simp; done)) (by first | assumption | exact Len.map (by assumption) _ | rfl | exact Len.map (by rfl) _ | exact Len.of (by simp; done)) (by first | exact B8_one | exact W32_one | exact one_of_all rfl)) | (exact hM.stores_W32 rfl (by (repeat (first | exact .here _ _ _ | apply Has.there)); done) (on_of rfl) (by first | omega | (simp only [Len] at *; omega) | (simp; omega))) | (exact hM.stores_one (by (repeat (first | exact .here _ _ _ | apply Has.there)); done) (on_of rfl) (by first | omega | (simp only [Len] at *; omega) | (simp; omega)) rfl rfl))), ?_⟩; intro _ hM2; clear hM; have hM := hM2; clear hM2) | ((with_reducible refine gL_alloc hM ?_); refine ⟨_, _, (zr_of rfl), ?_⟩; intro _ _ hM2; clear hM; have hM := hM2; clear hM2) | ((with_reducible refine gL_box hM ?_); refine ⟨_, _, _, rfl, rfl, (by first | assumption | exact Len.map (by assumption) _ | rfl | exact Len.map (by rfl) _ | exact Len.of (by simp; done)), ?_⟩; intro _ _ hM2; clear hM; have hM := hM2; clear hM2) | ((with_reducible refine gL_build0 ?_); refine ⟨_, _, _, _, _, _, (zr_of rfl), (ua_of rfl), (ag_of rfl), (el_of rfl), ?_⟩) | ((with_reducible refine gL_buildBytes hM ?_); refine ⟨_, _, (us_of rfl), (el_of rfl), (by decide), (by decide), rfl, (by (repeat (first | exact EvB.nil | apply EvB.cons rfl (by first | exact (rfl : B8 _ = B8 _) | exact lit8 _ (by decide)))); done), ?_⟩; intro _ _ hM2; clear hM; have hM := hM2; clear hM2) | ((with_reducible refine gL_append_B hM ?_); refine ⟨_, _, _, _, _, _, _, _, _, _, rfl, rfl, (by first | exact (rfl : Value.slice (some ⟨_, 0, none⟩) _ _ = sl (some _) _ _) | exact (rfl : Value.slice none _ _ = sl none _ _) | rfl), (us_of rfl), (el_of rfl), (by first | exact hM.src (by (repeat (first | exact .head _ | apply List.Mem.tail)); done) | exact (hM.bytes0 (by assumption)).src), (fun _ _ => by (repeat (first | exact .here _ _ _ | apply Swap.there)); done), (by first | assumption | exact Len.map (by assumption) _ | rfl | exact Len.map (by rfl) _ | exact Len.of (by simp; done)), (by first | assumption | exact Len.map (by assumption) _ | rfl | exact Len.map (by rfl) _ | exact Len.of (by simp; done)), (by first | assumption | (simp [maxLen]; done) | omega | (simp [maxLen]; omega)), (by first | omega | (simp only [Len] at *; omega) | (simp; omega)), ?_⟩; intro _ _ _ hM2 _ _; clear hM; have hM := hM2; clear hM2) | ((first | (with_reducible refine gL_field ?_) | ((with_reducible refine gG_field ?_ ?_); (exact wanted_of rfl rfl rfl rfl rfl))); refine ⟨_, _, rfl, (by (first | (exact field_one (fb_of rfl) rfl) | (exact field_agg (fa_of rfl) rfl))), ?_⟩))
      have hM0 : Mem [] w0 wr [⟨some gp, 5, (X ++ (Sha.be64 (8 * u)).take 0).map B8, cap⟩] := by rw [List.take_zero, List.append_nil]; exact hM
      clear hM
      have hM := hM0
      clear hM0
      generalize Sha.be64 (8 * u) = B at *
      go_loopw [3, 5] (fun p i wr => ∃ (k gp cap : Nat), k ≤ 8 ∧ i = .int .i64 (7 - (k : Int)) ∧ p = .slice (some ⟨gp, 0, none⟩) (n + k) cap ∧ cap ≤ maxLen ∧ Mem [] w0 wr [⟨some gp, 5, (X ++ B.take k).map B8, cap⟩]) (fun _ i _ => (intOf i + 1).toNat)
      case atStart => exact ⟨0, gp, cap, by omega, rfl, rfl, hcap, hM⟩
      case round =>
        clear hM hcap
        obtain ⟨k, gp, cap, hk, rfl, rfl, hcap, hM⟩ := hrel
        have hl5 : Len (X ++ B.take k) (n + k) := Len.of (by simp [hl3.eq, hbl8]; omega)
        by_cases hlk : k < 8
        · have h0 : (0 : Int) ≤ 7 - (k : Int) := by omega
          have hc8 : (8 : Int) * (7 - (k : Int)) = ((56 - 8 * k : Nat) : Int) := by omega
          have hBk := HB k hlk
          have hX1 : ∀ _ : Unit, (X ++ B.take k) ++ [(shr64 (8 * u) (56 - 8 * k)).toUInt8] = X ++ B.take (k + 1) := fun _ => by rw [hBk, List.append_assoc]
          clear hBk HB
          generalize 56 - 8 * k = k56 at *
          go_wp2_with (first | ((with_reducible refine gL_append_B hM ?_); refine ⟨_, _, some gp, n + k, cap, 5, X ++ B.take k, [(shr64 (8 * u) k56).toUInt8], 1, fun ob' cap' => [_, ⟨ob', 5, ((X ++ B.take k) ++ [(shr64 (8 * u) k56).toUInt8]).map B8, cap'⟩], rfl, rfl, rfl, (us_of rfl), (el_of rfl), hM.src (.head _), fun _ _ => .there _ (.here _ _ _), hl5, rfl, hcap, by omega, ?_⟩; intro ob1 cap1 _ hM2 hd1 hd2; clear hM; have hM := hM2; clear hM2) | go_skip | ((first | (with_reducible refine gL_load ?_) | ((with_reducible refine gG_load ?_ ?_); (exact wanted_of rfl rfl rfl rfl rfl))); refine ⟨_, _, rfl, (by (first | (assumption) | (exact hM.loads_B8 (by (repeat (first | exact .head _ | apply List.Mem.tail)); done) (on_of rfl) (by first | omega | (simp only [Len] at *; omega) | (simp; omega))) | (exact hM.loads_all (by (repeat (first | exact .head _ | apply List.Mem.tail)); done) (ag_of rfl) (by first | assumption | exact Len.map (by assumption) _ | rfl | exact Len.map (by rfl) _ | exact Len.of (by simp; done))) | (exact hM.loads_one (by (repeat (first | exact .head _ | apply List.Mem.tail)); done) (on_of rfl) rfl) | (exact hM.loads_W32 (by (repeat (first | exact .head _ | apply List.Mem.tail)); done) (on_of rfl) (by first | omega | (simp only [Len] at *; omega) | (simp; omega))) | (exact loads_cell (by assumption) (on_of rfl)))), ?_⟩) | ((with_reducible refine gL_store hM ?_); refine ⟨_, _, _, rfl, rfl, (by (first | (exact hM.stores_B8 (by first | exact (rfl : B8 _ = B8 _) | exact lit8 _ (by decide)) (by (repeat (first | exact .here _ _ _ | apply Has.there)); done) (on_of rfl) (by first | omega | (simp only [Len] at *; omega) | (simp; omega))) | (exact hM.stores_all (by (repeat (first | exact .here _ _ _ | apply Has.there)); done) (ag_of rfl) (by first | assumption | exact Len.map (by assumption) _ | rfl | exact Len.map (by rfl) _ | exact Len.of (by simp; done)) (by first | assumption | exact Len.map (by assumption) _ | rfl | exact Len.map (by rfl) _ | exact Len.of (by simp; done)) (by first | exact B8_one | exact W32_one | exact one_of_all rfl)) | (exact hM.stores_W32 rfl (by (repeat (first | exact .here _ _ _ | apply Has.there)); done) (on_of rfl) (by first | omega | (simp only [Len] at *; omega) | (simp; omega))) | (exact hM.stores_one (by (repeat (first | exact .here _ _ _ | apply Has.there)); done) (on_of rfl) (by first | omega | (simp only [Len] at *; omega) | (simp; omega)) rfl rfl))), ?_⟩; intro _ hM2; clear hM; have hM := hM2; clear hM2) | ((with_reducible refine gL_alloc hM ?_); refine ⟨_, _, (zr_of rfl), ?_⟩; intro _ _ hM2; clear hM; have hM := hM2; clear hM2) | ((with_reducible refine gL_box hM ?_); refine ⟨_, _, _, rfl, rfl, (by first | assumption | exact Len.map (by assumption) _ | rfl | exact Len.map (by rfl) _ | exact Len.of (by simp; done)), ?_⟩; intro _ _ hM2; clear hM; have hM := hM2; clear hM2) | ((with_reducible refine gL_build0 ?_); refine ⟨_, _, _, _, _, _, (zr_of rfl), (ua_of rfl), (ag_of rfl), (el_of rfl), ?_⟩) | ((with_reducible refine gL_buildBytes hM ?_); refine ⟨_, _, (us_of rfl), (el_of rfl), (by decide), (by decide), rfl, (by (repeat (first | exact EvB.nil | apply EvB.cons rfl (by first | exact (rfl : B8 _ = B8 _) | exact lit8 _ (by decide)))); done), ?_⟩; intro _ _ hM2; clear hM; have hM := hM2; clear hM2) | ((with_reducible refine gL_append_B hM ?_); refine ⟨_, _, _, _, _, _, _, _, _, _, rfl, rfl, (by first | exact (rfl : Value.slice (some ⟨_, 0, none⟩) _ _ = sl (some _) _ _) | exact (rfl : Value.slice none _ _ = sl none _ _) | rfl), (us_of rfl), (el_of rfl), (by first | exact hM.src (by (repeat (first | exact .head _ | apply List.Mem.tail)); done) | exact (hM.bytes0 (by assumption)).src), (fun _ _ => by (repeat (first | exact .here _ _ _ | apply Swap.there)); done), (by first | assumption | exact Len.map (by assumption) _ | rfl | exact Len.map (by rfl) _ | exact Len.of (by simp; done)), (by first | assumption | exact Len.map (by assumption) _ | rfl | exact Len.map (by rfl) _ | exact Len.of (by simp; done)), (by first | assumption | (simp [maxLen]; done) | omega | (simp [maxLen]; omega)), (by first | omega | (simp only [Len] at *; omega) | (simp; omega)), ?_⟩; intro _ _ _ hM2 _ _; clear hM; have hM := hM2; clear hM2) | ((first | (with_reducible refine gL_field ?_) | ((with_reducible refine gG_field ?_ ?_); (exact wanted_of rfl rfl rfl rfl rfl))); refine ⟨_, _, rfl, (by (first | (exact field_one (fb_of rfl) rfl) | (exact field_agg (fa_of rfl) rfl))), ?_⟩))
          have hl6 : Len (X ++ B.take k ++ [(shr64 (8 * u) k56).toUInt8]) (n + k + 1) := Len.of (by rw [List.length_append, hl5.eq]; rfl)
          obtain ⟨gq, hgq⟩ := hM.some_of (.tail _ (.head _)) (hl6.map B8) (by omega)
          have hM1 := hM.drop
          rw [hX1 ()] at hM1
          refine ⟨⟨k + 1, by omega, by omega, gq, cap1, ⟨hgq, by omega, rfl⟩, hd2, ?_⟩, ?_⟩
          · rw [hgq, List.map_append, List.map_take] at hM1
            exact hM1
          · simp only [intOf]; omega
        · have : k = 8 := by omega
          subst this
          rw [HF ()] at hM hl5
          have h0 : ¬ (0 : Int) ≤ 7 - ((8 : Nat) : Int) := by omega
          go_wp2_with (first | go_skip | ((first | (with_reducible refine gL_load ?_) | ((with_reducible refine gG_load ?_ ?_); (exact wanted_of rfl rfl rfl rfl rfl))); refine ⟨_, _, rfl, (by (first | (assumption) | (exact hM.loads_B8 (by (repeat (first | exact .head _ | apply List.Mem.tail)); done) (on_of rfl) (by first | omega | (simp only [Len] at *; omega) | (simp; omega))) | (exact hM.loads_all (by (repeat (first | exact .head _ | apply List.Mem.tail)); done) (ag_of rfl) (by first | assumption | exact Len.map (by assumption) _ | rfl | exact Len.map (by rfl) _ | exact Len.of (by simp; done))) | (exact hM.loads_one (by (repeat (first | exact .head _ | apply List.Mem.tail)); done) (on_of rfl) rfl) | (exact hM.loads_W32 (by (repeat (first | exact .head _ | apply List.Mem.tail)); done) (on_of rfl) (by first | omega | (simp only [Len] at *; omega) | (simp; omega))) | (exact loads_cell (by assumption) (on_of rfl)))), ?_⟩) | ((with_reducible refine gL_store hM ?_); refine ⟨_, _, _, rfl, rfl, (by (first | (exact hM.stores_B8 (by first | exact (rfl : B8 _ = B8 _) | exact lit8 _ (by decide)) (by (repeat (first | exact .here _ _ _ | apply Has.there)); done) (on_of rfl) (by first | omega | (simp only [Len] at *; omega) | (simp; omega))) | (exact hM.stores_all (by (repeat (first | exact .here _ _ _ | apply Has.there)); done) (ag_of rfl) (by first | assumption | exact Len.map (by assumption) _ | rfl | exact Len.map (by rfl) _ | exact Len.of (by simp; done)) (by first | assumption | exact Len.map (by assumption) _ | rfl | exact Len.map (by rfl) _ | exact Len.of (by simp; done)) (by first | exact B8_one | exact W32_one | exact one_of_all rfl)) | (exact hM.stores_W32 rfl (by (repeat (first | exact .here _ _ _ | apply Has.there)); done) (on_of rfl) (by first | omega | (simp only [Len] at *; omega) | (simp; omega))) | (exact hM.stores_one (by (repeat (first | exact .here _ _ _ | apply Has.there)); done) (on_of rfl) (by first | omega | (simp only [Len] at *; omega) | (simp; omega)) rfl rfl))), ?_⟩; intro _ hM2; clear hM; have hM := hM2; clear hM2) | ((with_reducible refine gL_alloc hM ?_); refine ⟨_, _, (zr_of rfl), ?_⟩; intro _ _ hM2; clear hM; have hM := hM2; clear hM2) | ((with_reducible refine gL_box hM ?_); refine ⟨_, _, _, rfl, rfl, (by first | assumption | exact Len.map (by assumption) _ | rfl | exact Len.map (by rfl) _ | exact Len.of (by simp; done)), ?_⟩; intro _ _ hM2; clear hM; have hM := hM2; clear hM2) | ((with_reducible refine gL_build0 ?_); refine ⟨_, _, _, _, _, _, (zr_of rfl), (ua_of rfl), (ag_of rfl), (el_of rfl), ?_⟩) | ((with_reducible refine gL_buildBytes hM ?_); refine ⟨_, _, (us_of rfl), (el_of rfl), (by decide), (by decide), rfl, (by (repeat (first | exact EvB.nil | apply EvB.cons rfl (by first | exact (rfl : B8 _ = B8 _) | exact lit8 _ (by decide)))); done), ?_⟩; intro _ _ hM2; clear hM; have hM := hM2; clear hM2) | ((with_reducible refine gL_append_B hM ?_); refine ⟨_, _, _, _, _, _, _, _, _, _, rfl, rfl, (by first | exact (rfl : Value.slice (some ⟨_, 0, none⟩) _ _ = sl (some _) _ _) | exact (rfl : Value.slice none _ _ = sl none _ _) | rfl), (us_of rfl), (el_of rfl), (by first | exact hM.src (by (repeat (first | exact .head _ | apply List.Mem.tail)); done) | exact (hM.bytes0 (by assumption)).src), (fun _ _ => by (repeat (first | exact .here _ _ _ | apply Swap.there)); done), (by first | assumption | exact Len.map (by assumption) _ | rfl | exact Len.map (by rfl) _ | exact Len.of (by simp; done)), (by first | assumption | exact Len.map (by assumption) _ | rfl | exact Len.map (by rfl) _ | exact Len.of (by simp; done)), (by first | assumption | (simp [maxLen]; done) | omega | (simp [maxLen]; omega)), (by first | omega | (simp only [Len] at *; omega) | (simp; omega)), ?_⟩; intro _ _ _ hM2 _ _; clear hM; have hM := hM2; clear hM2) | ((first | (with_reducible refine gL_field ?_) | ((with_reducible refine gG_field ?_ ?_); (exact wanted_of rfl rfl rfl rfl rfl))); refine ⟨_, _, rfl, (by (first | (exact field_one (fb_of rfl) rfl) | (exact field_agg (fa_of rfl) rfl))), ?_⟩))
          go_ret
          exact ⟨gp, n + 8, cap, rfl, hl5, hcap, hM⟩
end Go.Proofs.Ytejmbkljnhnklaa

namespace Go.Proofs.Ytejmbkljnhnklaa
open Go.RowKit Go.PK
set_option maxRecDepth 100000 in
set_option maxHeartbeats 4000000 in
theorem ref02_Of (w0 : World) (v : Value) (l : List UInt8) (hv : Bytes w0 v l) (hlen : l.length ≤ 140737488355000) :
    Calls Try.prog 19 #[v] w0 fun e w' => e = .returned (.agg ((Sha.of l).map B8).toArray) ∧ Below w0.heap.size w0 w' := by
  obtain ⟨O, hO⟩ : ∃ O, O = Sha.of l := ⟨_, rfl⟩
  have hol : Len O 32 := by rw [hO]; exact Len.of (Sha.of_len l)
  rw [← hO]
  have HOm : ∀ _ : Unit, O = Sha.of l := fun _ => hO
  clear hO
  have hM := Mem.start w0
  have hb8 : Len (Sha.begins.map W32) 8 := rfl
  go_enter Try.func19, Try.ntmps19
  go_wp2_with (first | ((first | ((with_reducible refine gL_alloc (dst := some 2) hM ?_); refine ⟨_, _, (zr_of rfl), ?_⟩) | ((with_reducible refine gL_box (dst := some 2) hM ?_); refine ⟨_, _, _, rfl, rfl, (by first | assumption | exact Len.map (by assumption) _ | rfl | exact Len.map (by rfl) _ | exact Len.of (by simp; done) | exact W32_len (by assumption) | exact Len.map (W32_len (by assumption)) _), ?_⟩)); intro g2 _ hM2; clear hM; have hM := hM2; clear hM2) | (go_at_call 62; have hvw := hM.bytes0 hv; (with_reducible refine (ref02_padded _ _ l hvw hlen).mono ?_); clear hvw; rintro _ _ ⟨gp, n, cap, rfl, hpl, hcap, hM3⟩; replace hM := hM.addNew hM3.done (hM3.holds _ (.head _)) (hM3.mem_new (.head _)); clear hM3) |
    ((first | ((with_reducible refine gL_alloc (dst := some 4) hM ?_); refine ⟨_, _, (zr_of rfl), ?_⟩) | ((with_reducible refine gL_box (dst := some 4) hM ?_); refine ⟨_, _, _, rfl, rfl, (by first | assumption | exact Len.map (by assumption) _ | rfl | exact Len.map (by rfl) _ | exact Len.of (by simp; done) | exact W32_len (by assumption) | exact Len.map (W32_len (by assumption)) _), ?_⟩)); intro g4 _ hM2; clear hM; have hM := hM2; clear hM2) | ((first | ((with_reducible refine gL_alloc (dst := some 5) hM ?_); refine ⟨_, _, (zr_of rfl), ?_⟩) | ((with_reducible refine gL_box (dst := some 5) hM ?_); refine ⟨_, _, _, rfl, rfl, (by first | assumption | exact Len.map (by assumption) _ | rfl | exact Len.map (by rfl) _ | exact Len.of (by simp; done) | exact W32_len (by assumption) | exact Len.map (W32_len (by assumption)) _), ?_⟩)); intro g5 _ hM2; clear hM; have hM := hM2; clear hM2) | (go_at_call 63; (with_reducible refine (ref02_begins _).mono ?_); rintro _ _ ⟨rfl, B1⟩; replace hM := hM.adds B1; clear B1) | (go_at_call 64; (with_reducible refine (ref02_rounds _).mono ?_); rintro _ _ ⟨rfl, B1⟩; replace hM := hM.adds B1; clear B1) | go_skip | ((first | (with_reducible refine gL_load ?_) | ((with_reducible refine gG_load ?_ ?_); (exact wanted_of rfl rfl rfl rfl rfl))); refine ⟨_, _, rfl, (by (first | (assumption) | (exact hM.loads_B8 (by (repeat (first | exact .head _ | apply List.Mem.tail)); done) (on_of rfl) (by first | omega | (simp only [Len] at *; omega) | (simp; omega))) | (exact hM.loads_all (by (repeat (first | exact .head _ | apply List.Mem.tail)); done) (ag_of rfl) (by first | assumption | exact Len.map (by assumption) _ | rfl | exact Len.map (by rfl) _ | exact Len.of (by simp; done) | exact W32_len (by assumption) | exact Len.map (W32_len (by assumption)) _)) | (exact hM.loads_one (by (repeat (first | exact .head _ | apply List.Mem.tail)); done) (on_of rfl) rfl) | (exact hM.loads_W32 (by (repeat (first | exact .head _ | apply List.Mem.tail)); done) (on_of rfl) (by first | omega | (simp only [Len] at *; omega) | (simp; omega))) | (exact loads_cell (by assumption) (on_of rfl)))), ?_⟩) | ((with_reducible refine gL_store hM ?_); refine ⟨_, _, _, rfl, rfl, (by (first | (exact hM.stores_all (by (repeat (first | exact .here _ _ _ | apply Has.there)); done) (ag_of rfl) ks_w32 (by rfl) W32_one) | (exact hM.stores_B8 (by first | exact (rfl : B8 _ = B8 _) | exact lit8 _ (by decide)) (by (repeat (first | exact .here _ _ _ | apply Has.there)); done) (on_of rfl) (by first | omega | (simp only [Len] at *; omega) | (simp; omega))) | (exact hM.stores_all (by (repeat (first | exact .here _ _ _ | apply Has.there)); done) (ag_of rfl) (by first | assumption | exact Len.map (by assumption) _ | rfl | exact Len.map (by rfl) _ | exact Len.of (by simp; done) | exact W32_len (by assumption) | exact Len.map (W32_len (by assumption)) _) (by first | assumption | exact Len.map (by assumption) _ | rfl | exact Len.map (by rfl) _ | exact Len.of (by simp; done) | exact W32_len (by assumption) | exact Len.map (W32_len (by assumption)) _) (by first | exact B8_one | exact W32_one | exact one_of_all rfl)) | (exact hM.stores_W32 rfl (by (repeat (first | exact .here _ _ _ | apply Has.there)); done) (on_of rfl) (by first | omega | (simp only [Len] at *; omega) | (simp; omega))) | (exact hM.stores_one (by (repeat (first | exact .here _ _ _ | apply Has.there)); done) (on_of rfl) (by first | omega | (simp only [Len] at *; omega) | (simp; omega)) rfl rfl))), ?_⟩; intro _ hM2; clear hM; have hM := hM2; clear hM2) | ((with_reducible refine gL_alloc hM ?_); refine ⟨_, _, (zr_of rfl), ?_⟩; intro _ _ hM2; clear hM; have hM := hM2; clear hM2) | ((with_reducible refine gL_box hM ?_); refine ⟨_, _, _, rfl, rfl, (by first | assumption | exact Len.map (by assumption) _ | rfl | exact Len.map (by rfl) _ | exact Len.of (by simp; done) | exact W32_len (by assumption) | exact Len.map (W32_len (by assumption)) _), ?_⟩; intro _ _ hM2; clear hM; have hM := hM2; clear hM2) | ((with_reducible refine gL_build0 ?_); refine ⟨_, _, _, _, _, _, (zr_of rfl), (ua_of rfl), (ag_of rfl), (el_of rfl), ?_⟩) | ((with_reducible refine gL_buildBytes hM ?_); refine ⟨_, _, (us_of rfl), (el_of rfl), (by decide), (by decide), rfl, (by (repeat (first | exact EvB.nil | apply EvB.cons rfl (by first | exact (rfl : B8 _ = B8 _) | exact lit8 _ (by decide)))); done), ?_⟩; intro _ _ hM2; clear hM; have hM := hM2; clear hM2) | ((with_reducible refine gL_append_B hM ?_); refine ⟨_, _, _, _, _, _, _, _, _, _, rfl, rfl, (by first | exact (rfl : Value.slice (some ⟨_, 0, none⟩) _ _ = sl (some _) _ _) | exact (rfl : Value.slice none _ _ = sl none _ _) | rfl), (us_of rfl), (el_of rfl), (by first | exact hM.src (by (repeat (first | exact .head _ | apply List.Mem.tail)); done) | exact (hM.bytes0 (by assumption)).src), (fun _ _ => by (repeat (first | exact .here _ _ _ | apply Swap.there)); done), (by first | assumption | exact Len.map (by assumption) _ | rfl | exact Len.map (by rfl) _ | exact Len.of (by simp; done) | exact W32_len (by assumption) | exact Len.map (W32_len (by assumption)) _), (by first | assumption | exact Len.map (by assumption) _ | rfl | exact Len.map (by rfl) _ | exact Len.of (by simp; done) | exact W32_len (by assumption) | exact Len.map (W32_len (by assumption)) _), (by first | assumption | (simp [maxLen]; done) | omega | (simp [maxLen]; omega)), (by first | omega | (simp only [Len] at *; omega) | (simp; omega)), ?_⟩; intro _ _ _ hM2 _ _; clear hM; have hM := hM2; clear hM2) | ((first | (with_reducible refine gL_field ?_) | ((with_reducible refine gG_field ?_ ?_); (exact wanted_of rfl rfl rfl rfl rfl))); refine ⟨_, _, rfl, (by (first | (exact field_one (fb_of rfl) rfl) | (exact field_agg (fa_of rfl) rfl))), ?_⟩))
  have hn64 : n = 64 * ((Sha.padded l).length / 64) := by rw [← hpl.eq]; exact Sha.padded_len l
  have HF : ∀ _ : Unit, Sha.out (Sha.run (Sha.padded l) ((Sha.padded l).length / 64)) = O := fun _ => by rw [HOm ()]; rfl
  have hnq : n / 64 = (Sha.padded l).length / 64 := by rw [hpl.eq]
  rw [← hnq] at hn64 HF
  clear hnq
  have HN64 : ∀ _ : Unit, n = 64 * (n / 64) := fun _ => hn64
  clear hn64
  have hnb : n ≤ 140737488355200 := by
    have h1 := hpl.eq
    rw [Sha.padded, List.length_append, Sha.ending_len] at h1
    have := Sha.zeros_lt l.length
    omega
  have hR0 : ∀ _ : Unit, Sha.begins = Sha.run (Sha.padded l) 0 := fun _ => rfl
  rw [hR0 ()] at hM
  clear hR0 hb8
  generalize Sha.padded l = PP at *
  obtain ⟨KS, hKS⟩ : ∃ KS, KS = Sha.ks := ⟨_, rfl⟩
  rw [← hKS] at hM
  have HK : ∀ _ : Unit, KS = Sha.ks := fun _ => hKS
  have hkl : Len (KS.map W32) 64 := by rw [hKS]; exact ks_w32
  clear hKS
  go_loopw [6] (fun i wr => ∃ q : Nat, 64 * q ≤ n ∧ i = .int .i64 ((64 * q : Nat) : Int) ∧ Mem [] w0 wr [⟨some g5, 113, KS.map W32, 64⟩, ⟨some g4, 111, (Sha.run PP q).map W32, 8⟩, ⟨some gp, 5, PP.map B8, cap⟩, ⟨some g2, 24, (List.replicate 32 (0 : UInt8)).map B8, 32⟩]) (fun i _ => n - (intOf i).toNat)
  case atStart => exact ⟨0, by omega, rfl, hM.sub (by repeat (first | exact List.nil_sublist _ | apply List.Sublist.cons_cons | apply List.Sublist.cons))⟩
  case round =>
    clear hM
    obtain ⟨q, hq, rfl, hM⟩ := hrel
    obtain ⟨a64, ha64⟩ : ∃ a64, a64 = 64 * q := ⟨_, rfl⟩
    rw [← ha64] at hq ⊢
    have HA : ∀ _ : Unit, a64 = 64 * q := fun _ => ha64
    have hrl := Sha.run_len PP q
    have HS : ∀ _ : Unit, Sha.run PP (q + 1) = Sha.piece (Sha.run PP q) ((PP.drop a64).take 64) := fun _ => by rw [ha64]; rfl
    by_cases hlt : a64 < n
    · have hti : (a64 : Int) < (n : Int) := by omega
      have hsub : a64 + 64 ≤ n := by have := HN64 (); omega
      have hcapn : n ≤ cap := by
        obtain ⟨J, -, hJ⟩ := hM.holds _ (.tail _ (.tail _ (.head _)))
        simp only [List.length_map] at hJ
        have := hpl.eq
        omega
      clear ha64
      generalize Sha.run PP q = R at *
      have hRl : Len (R.map W32) 8 := W32_len hrl
      have hpc : ∀ w v mm, Bytes w v mm → mm.length = 64 → Calls Try.prog 65 #[.agg (R.map W32).toArray, v, .agg (KS.map W32).toArray] w fun e w' => e = .returned (.agg ((Sha.piece R mm).map W32).toArray) ∧ Below w.heap.size w w' := fun w v mm h1 h2 => by
        rw [HK ()]
        exact ref02_piece w R hrl v mm h1 h2
      go_wp2_with (first | go_skip | ((first | (with_reducible refine gL_load ?_) | ((with_reducible refine gG_load ?_ ?_); (exact wanted_of rfl rfl rfl rfl rfl))); refine ⟨_, _, rfl, (by (first | (assumption) | (exact hM.loads_B8 (by (repeat (first | exact .head _ | apply List.Mem.tail)); done) (on_of rfl) (by first | omega | (simp only [Len] at *; omega) | (simp; omega))) | (exact hM.loads_all (by (repeat (first | exact .head _ | apply List.Mem.tail)); done) (ag_of rfl) (by first | assumption | exact Len.map (by assumption) _ | rfl | exact Len.map (by rfl) _ | exact Len.of (by simp; done) | exact W32_len (by assumption) | exact Len.map (W32_len (by assumption)) _)) | (exact hM.loads_one (by (repeat (first | exact .head _ | apply List.Mem.tail)); done) (on_of rfl) rfl) | (exact hM.loads_W32 (by (repeat (first | exact .head _ | apply List.Mem.tail)); done) (on_of rfl) (by first | omega | (simp only [Len] at *; omega) | (simp; omega))) | (exact loads_cell (by assumption) (on_of rfl)))), ?_⟩) | ((with_reducible refine gL_store hM ?_); refine ⟨_, _, _, rfl, rfl, (by (first | (exact hM.stores_all (by (repeat (first | exact .here _ _ _ | apply Has.there)); done) (ag_of rfl) ks_w32 (by rfl) W32_one) | (exact hM.stores_B8 (by first | exact (rfl : B8 _ = B8 _) | exact lit8 _ (by decide)) (by (repeat (first | exact .here _ _ _ | apply Has.there)); done) (on_of rfl) (by first | omega | (simp only [Len] at *; omega) | (simp; omega))) | (exact hM.stores_all (by (repeat (first | exact .here _ _ _ | apply Has.there)); done) (ag_of rfl) (by first | assumption | exact Len.map (by assumption) _ | rfl | exact Len.map (by rfl) _ | exact Len.of (by simp; done) | exact W32_len (by assumption) | exact Len.map (W32_len (by assumption)) _) (by first | assumption | exact Len.map (by assumption) _ | rfl | exact Len.map (by rfl) _ | exact Len.of (by simp; done) | exact W32_len (by assumption) | exact Len.map (W32_len (by assumption)) _) (by first | exact B8_one | exact W32_one | exact one_of_all rfl)) | (exact hM.stores_W32 rfl (by (repeat (first | exact .here _ _ _ | apply Has.there)); done) (on_of rfl) (by first | omega | (simp only [Len] at *; omega) | (simp; omega))) | (exact hM.stores_one (by (repeat (first | exact .here _ _ _ | apply Has.there)); done) (on_of rfl) (by first | omega | (simp only [Len] at *; omega) | (simp; omega)) rfl rfl))), ?_⟩; intro _ hM2; clear hM; have hM := hM2; clear hM2) | ((with_reducible refine gL_alloc hM ?_); refine ⟨_, _, (zr_of rfl), ?_⟩; intro _ _ hM2; clear hM; have hM := hM2; clear hM2) | ((with_reducible refine gL_box hM ?_); refine ⟨_, _, _, rfl, rfl, (by first | assumption | exact Len.map (by assumption) _ | rfl | exact Len.map (by rfl) _ | exact Len.of (by simp; done) | exact W32_len (by assumption) | exact Len.map (W32_len (by assumption)) _), ?_⟩; intro _ _ hM2; clear hM; have hM := hM2; clear hM2) | ((with_reducible refine gL_build0 ?_); refine ⟨_, _, _, _, _, _, (zr_of rfl), (ua_of rfl), (ag_of rfl), (el_of rfl), ?_⟩) | ((with_reducible refine gL_buildBytes hM ?_); refine ⟨_, _, (us_of rfl), (el_of rfl), (by decide), (by decide), rfl, (by (repeat (first | exact EvB.nil | apply EvB.cons rfl (by first | exact (rfl : B8 _ = B8 _) | exact lit8 _ (by decide)))); done), ?_⟩; intro _ _ hM2; clear hM; have hM := hM2; clear hM2) | ((with_reducible refine gL_append_B hM ?_); refine ⟨_, _, _, _, _, _, _, _, _, _, rfl, rfl, (by first | exact (rfl : Value.slice (some ⟨_, 0, none⟩) _ _ = sl (some _) _ _) | exact (rfl : Value.slice none _ _ = sl none _ _) | rfl), (us_of rfl), (el_of rfl), (by first | exact hM.src (by (repeat (first | exact .head _ | apply List.Mem.tail)); done) | exact (hM.bytes0 (by assumption)).src), (fun _ _ => by (repeat (first | exact .here _ _ _ | apply Swap.there)); done), (by first | assumption | exact Len.map (by assumption) _ | rfl | exact Len.map (by rfl) _ | exact Len.of (by simp; done) | exact W32_len (by assumption) | exact Len.map (W32_len (by assumption)) _), (by first | assumption | exact Len.map (by assumption) _ | rfl | exact Len.map (by rfl) _ | exact Len.of (by simp; done) | exact W32_len (by assumption) | exact Len.map (W32_len (by assumption)) _), (by first | assumption | (simp [maxLen]; done) | omega | (simp [maxLen]; omega)), (by first | omega | (simp only [Len] at *; omega) | (simp; omega)), ?_⟩; intro _ _ _ hM2 _ _; clear hM; have hM := hM2; clear hM2) | ((first | (with_reducible refine gL_field ?_) | ((with_reducible refine gG_field ?_ ?_); (exact wanted_of rfl rfl rfl rfl rfl))); refine ⟨_, _, rfl, (by (first | (exact field_one (fb_of rfl) rfl) | (exact field_agg (fa_of rfl) rfl))), ?_⟩))
      try simp only [Act.put, List.setIfInBounds_toArray, List.set_cons_succ, List.set_cons_zero]
      refine wp_region_tail 8 (by decide) (fun c vals => ⟨#[c 0, c 1, c 2, (Value.slice (some ⟨gp, 0, none⟩) n cap : Value), (Value.pointer (some ⟨g4, 0, none⟩) : Value), (Value.pointer (some ⟨g5, 0, none⟩) : Value), (Value.int .i64 ((a64 : Nat) : Int) : Value), c 7, c 8, c 9, c 10, c 11, c 12, c 13, c 14, c 15, c 16, c 17, c 18, vals 0, vals 1, vals 2, vals 3, vals 4, vals 5, vals 6, vals 7, c 27, c 28, c 29, c 30, c 31, c 32, c 33, c 34, c 35, c 36, c 37, c 38, c 39, c 40, c 41, c 42, c 43, c 44], []⟩) (fun t => [_, _, _, undef, undef, undef, undef, _, _, _, _, _, _, _, _, _, _, _, _, undef, undef, undef, undef, undef, undef, undef, undef, _, _, _, _, _, _, _, _, _, _, _, _, _, _, _, _, _, _].getD t undef) (fun i => [_, _, _, _, _, _, _, _].getD i undef) (by kernel_rfl)
        [[], [], [], [], [3], [1, 2, 3, 4], [], [0, 1, 2, 3, 4, 5, 6], [0, 1, 2, 3, 4, 5, 6, 7]] (by kernel_rfl) (by kernel_rfl) (fun _ => True) trivial
        [fun x _ => x = (Value.agg (R.map W32).toArray : Value),
         fun x _ => x = (Value.slice (some ⟨gp, 0, none⟩) n cap : Value),
         fun x _ => x = (Value.int .i64 ((a64 : Nat) : Int) : Value),
         fun x _ => x = (Value.int .i64 ((a64 : Nat) : Int) : Value),
         fun x _ => x = (Value.int .i64 ((a64 + 64 : Nat) : Int) : Value),
         fun x _ => x = (Value.slice (some ⟨gp, a64, none⟩) 64 (cap - a64) : Value),
         fun x _ => x = (Value.agg (KS.map W32).toArray : Value),
         fun x _ => x = (Value.agg ((Sha.piece R ((PP.drop a64).take 64)).map W32).toArray : Value)]
        ⟨fun _ _ _ h _ => h, fun _ _ _ h _ => h, fun _ _ _ h _ => h, fun _ _ _ h _ => h, fun _ _ _ h _ => h, fun _ _ _ h _ => h, fun _ _ _ h _ => h, fun _ _ _ h _ => h, trivial⟩ []
        ⟨?_, ?_, ?_, ?_, ?_, ?_, ?_, ?_, trivial⟩ ?_
      · refine showA_op 0 (by intro _ _ _; kernel_rfl) rfl rfl (fun c vals w hC hD => ?_)
        clear hD
        refine makes1 (x := .tmp 4) (X := Value.pointer (some ⟨g4, 0, none⟩)) (by kernel_rfl : _ = (Value.pointer (some ⟨g4, 0, none⟩) : Value)) (fun ρ rc rf q4 => ?_)
        exact makes_load ((hM.adds hC).loads_all (by (repeat (first | exact .head _ | apply List.Mem.tail)); done) (ag_of rfl) hRl) rfl q4 ⟨Adds.refl _, rfl⟩
      · refine showA_op 1 (by intro _ _ _; kernel_rfl) rfl rfl (fun c vals w hC hD => ?_)
        clear hD
        refine makes1 (x := .tmp 3) (X := Value.slice (some ⟨gp, 0, none⟩) n cap) (by kernel_rfl : _ = (Value.slice (some ⟨gp, 0, none⟩) n cap : Value)) (fun ρ rc rf q3 => ?_)
        exact makes_move (.inl rfl) q3 ⟨Adds.refl _, rfl⟩
      · refine showA_op 2 (by intro _ _ _; kernel_rfl) rfl rfl (fun c vals w hC hD => ?_)
        clear hD
        refine makes1 (x := .tmp 6) (X := Value.int .i64 ((a64 : Nat) : Int)) (by kernel_rfl : _ = (Value.int .i64 ((a64 : Nat) : Int) : Value)) (fun ρ rc rf q6 => ?_)
        exact makes_move (.inl rfl) q6 ⟨Adds.refl _, rfl⟩
      · refine showA_op 3 (by intro _ _ _; kernel_rfl) rfl rfl (fun c vals w hC hD => ?_)
        clear hD
        refine makes1 (x := .tmp 6) (X := Value.int .i64 ((a64 : Nat) : Int)) (by kernel_rfl : _ = (Value.int .i64 ((a64 : Nat) : Int) : Value)) (fun ρ rc rf q6 => ?_)
        exact makes_move (.inl rfl) q6 ⟨Adds.refl _, rfl⟩
      · refine showA_op 4 (by intro _ _ _; kernel_rfl) rfl rfl (fun c vals w hC hD => ?_)
        have h3 : vals 3 = .int .i64 ((a64 : Nat) : Int) := hD 3 rfl
        clear hD
        refine makes1 (x := .tmp 22) (X := Value.int .i64 ((a64 : Nat) : Int)) ((by kernel_rfl : _ = vals 3).trans h3) (fun ρ rc rf q22 => ?_)
        clear h3
        refine makes_value (v := Value.int .i64 ((a64 + 64 : Nat) : Int)) ?_ ⟨Adds.refl _, rfl⟩
        go_simp
        all_goals first | done | rfl | (rw [if_pos (by omega)]; refine congrArg (fun x => Result.ok (Next.value (Value.pointer (some ⟨_, x, none⟩))) _) ?_; omega) | (rw [wrapP_i64]; omega) | go_num | (simp; done) | (simp; omega) | (congr 1; first | rfl | (rw [wrapP_i64]; omega) | (congr 1; first | rfl | (simp; done) | (simp; omega) | (congr 2; omega) | go_num))
      · refine showA_op 5 (by intro _ _ _; kernel_rfl) rfl rfl (fun c vals w hC hD => ?_)
        have h1 : vals 1 = .slice (some ⟨gp, 0, none⟩) n cap := hD 1 rfl
        have h2 : vals 2 = .int .i64 ((a64 : Nat) : Int) := hD 2 rfl
        have h4 : vals 4 = .int .i64 ((a64 + 64 : Nat) : Int) := hD 4 rfl
        clear hD
        refine makes3 (x := .tmp 20) (X := Value.slice (some ⟨gp, 0, none⟩) n cap) (y := .tmp 21) (Y := Value.int .i64 ((a64 : Nat) : Int)) (z := .tmp 23) (Z := Value.int .i64 ((a64 + 64 : Nat) : Int)) ((by kernel_rfl : _ = vals 1).trans h1) ((by kernel_rfl : _ = vals 2).trans h2) ((by kernel_rfl : _ = vals 4).trans h4) (fun ρ rc rf q20 q21 q23 => ?_)
        clear h1 h2 h4
        (refine makes_value (v := .slice (some ⟨gp, a64, none⟩) 64 (cap - a64)) ?_ ⟨Adds.refl _, rfl⟩; go_simp; rw [if_pos (by omega), if_pos (by omega), if_neg (by omega), show ((a64 : Int) + 64).toNat - a64 = 64 from by omega])
      · refine showA_op 6 (by intro _ _ _; kernel_rfl) rfl rfl (fun c vals w hC hD => ?_)
        clear hD
        refine makes1 (x := .tmp 5) (X := Value.pointer (some ⟨g5, 0, none⟩)) (by kernel_rfl : _ = (Value.pointer (some ⟨g5, 0, none⟩) : Value)) (fun ρ rc rf q5 => ?_)
        exact makes_load ((hM.adds hC).loads_all (by (repeat (first | exact .head _ | apply List.Mem.tail)); done) (ag_of rfl) hkl) rfl q5 ⟨Adds.refl _, rfl⟩
      · refine showA_op 7 (by intro _ _ _; kernel_rfl) rfl rfl (fun c vals w hC hD => ?_)
        have h0 : vals 0 = .agg (R.map W32).toArray := hD 0 rfl
        have h5 : vals 5 = .slice (some ⟨gp, a64, none⟩) 64 (cap - a64) := hD 5 rfl
        have h6 : vals 6 = .agg (KS.map W32).toArray := hD 6 rfl
        clear hD
        refine makes3 (x := .tmp 19) (X := Value.agg (R.map W32).toArray) (y := .tmp 24) (Y := Value.slice (some ⟨gp, a64, none⟩) 64 (cap - a64)) (z := .tmp 25) (Z := Value.agg (KS.map W32).toArray) ((by kernel_rfl : _ = vals 0).trans h0) ((by kernel_rfl : _ = vals 5).trans h5) ((by kernel_rfl : _ = vals 6).trans h6) (fun ρ rc rf q19 q24 q25 => ?_)
        clear h0 h5 h6
        refine makes_call (hpc _ (.slice (some ⟨gp, a64, none⟩) 64 (cap - a64)) ((PP.drop a64).take 64) ((hM.adds hC).part' (by (repeat (first | exact .head _ | apply List.Mem.tail)); done) (by rw [hpl.eq]; omega) (by omega) (by simp only [maxLen] at hcap; omega)) (by rw [List.length_take, List.length_drop, hpl.eq]; omega)) ?_ (by rintro e w' ⟨rfl, hb⟩; exact ⟨_, rfl, hb, rfl⟩)
        go_simp
      intro vals w' hC hΦ hne
      have h7 : vals 7 = .agg ((Sha.piece R ((PP.drop a64).take 64)).map W32).toArray := hΦ 7 (by decide)
      clear hΦ hne
      simp only [List.getD_eq_getElem?_getD, List.getElem?_cons_zero, List.getElem?_cons_succ, Option.getD_some, List.drop_succ_cons, List.drop_zero]
      simp only [h7]
      clear h7
      try simp only [tuple_undef]
      replace hM := hM.adds hC
      clear hC
      have hpl8 : Len ((Sha.piece R ((PP.drop a64).take 64)).map W32) 8 := W32_len (Sha.piece_len _ _ hrl)
      have HQ : ∀ _ : Unit, (Sha.piece R ((PP.drop a64).take 64)).map W32 = (Sha.run PP (q + 1)).map W32 := fun _ => by rw [HS ()]
      clear HS
      generalize Sha.piece R ((PP.drop a64).take 64) = R2 at *
      go_wp2_with (first | go_skip | ((first | (with_reducible refine gL_load ?_) | ((with_reducible refine gG_load ?_ ?_); (exact wanted_of rfl rfl rfl rfl rfl))); refine ⟨_, _, rfl, (by (first | (assumption) | (exact hM.loads_B8 (by (repeat (first | exact .head _ | apply List.Mem.tail)); done) (on_of rfl) (by first | omega | (simp only [Len] at *; omega) | (simp; omega))) | (exact hM.loads_all (by (repeat (first | exact .head _ | apply List.Mem.tail)); done) (ag_of rfl) (by first | assumption | exact Len.map (by assumption) _ | rfl | exact Len.map (by rfl) _ | exact Len.of (by simp; done) | exact W32_len (by assumption) | exact Len.map (W32_len (by assumption)) _)) | (exact hM.loads_one (by (repeat (first | exact .head _ | apply List.Mem.tail)); done) (on_of rfl) rfl) | (exact hM.loads_W32 (by (repeat (first | exact .head _ | apply List.Mem.tail)); done) (on_of rfl) (by first | omega | (simp only [Len] at *; omega) | (simp; omega))) | (exact loads_cell (by assumption) (on_of rfl)))), ?_⟩) | ((with_reducible refine gL_store hM ?_); refine ⟨_, _, _, rfl, rfl, (by (first | (exact hM.stores_all (by (repeat (first | exact .here _ _ _ | apply Has.there)); done) (ag_of rfl) ks_w32 (by rfl) W32_one) | (exact hM.stores_B8 (by first | exact (rfl : B8 _ = B8 _) | exact lit8 _ (by decide)) (by (repeat (first | exact .here _ _ _ | apply Has.there)); done) (on_of rfl) (by first | omega | (simp only [Len] at *; omega) | (simp; omega))) | (exact hM.stores_all (by (repeat (first | exact .here _ _ _ | apply Has.there)); done) (ag_of rfl) (by first | assumption | exact Len.map (by assumption) _ | rfl | exact Len.map (by rfl) _ | exact Len.of (by simp; done) | exact W32_len (by assumption) | exact Len.map (W32_len (by assumption)) _) (by first | assumption | exact Len.map (by assumption) _ | rfl | exact Len.map (by rfl) _ | exact Len.of (by simp; done) | exact W32_len (by assumption) | exact Len.map (W32_len (by assumption)) _) (by first | exact B8_one | exact W32_one | exact one_of_all rfl)) | (exact hM.stores_W32 rfl (by (repeat (first | exact .here _ _ _ | apply Has.there)); done) (on_of rfl) (by first | omega | (simp only [Len] at *; omega) | (simp; omega))) | (exact hM.stores_one (by (repeat (first | exact .here _ _ _ | apply Has.there)); done) (on_of rfl) (by first | omega | (simp only [Len] at *; omega) | (simp; omega)) rfl rfl))), ?_⟩; intro _ hM2; clear hM; have hM := hM2; clear hM2) | ((with_reducible refine gL_alloc hM ?_); refine ⟨_, _, (zr_of rfl), ?_⟩; intro _ _ hM2; clear hM; have hM := hM2; clear hM2) | ((with_reducible refine gL_box hM ?_); refine ⟨_, _, _, rfl, rfl, (by first | assumption | exact Len.map (by assumption) _ | rfl | exact Len.map (by rfl) _ | exact Len.of (by simp; done) | exact W32_len (by assumption) | exact Len.map (W32_len (by assumption)) _), ?_⟩; intro _ _ hM2; clear hM; have hM := hM2; clear hM2) | ((with_reducible refine gL_build0 ?_); refine ⟨_, _, _, _, _, _, (zr_of rfl), (ua_of rfl), (ag_of rfl), (el_of rfl), ?_⟩) | ((with_reducible refine gL_buildBytes hM ?_); refine ⟨_, _, (us_of rfl), (el_of rfl), (by decide), (by decide), rfl, (by (repeat (first | exact EvB.nil | apply EvB.cons rfl (by first | exact (rfl : B8 _ = B8 _) | exact lit8 _ (by decide)))); done), ?_⟩; intro _ _ hM2; clear hM; have hM := hM2; clear hM2) | ((with_reducible refine gL_append_B hM ?_); refine ⟨_, _, _, _, _, _, _, _, _, _, rfl, rfl, (by first | exact (rfl : Value.slice (some ⟨_, 0, none⟩) _ _ = sl (some _) _ _) | exact (rfl : Value.slice none _ _ = sl none _ _) | rfl), (us_of rfl), (el_of rfl), (by first | exact hM.src (by (repeat (first | exact .head _ | apply List.Mem.tail)); done) | exact (hM.bytes0 (by assumption)).src), (fun _ _ => by (repeat (first | exact .here _ _ _ | apply Swap.there)); done), (by first | assumption | exact Len.map (by assumption) _ | rfl | exact Len.map (by rfl) _ | exact Len.of (by simp; done) | exact W32_len (by assumption) | exact Len.map (W32_len (by assumption)) _), (by first | assumption | exact Len.map (by assumption) _ | rfl | exact Len.map (by rfl) _ | exact Len.of (by simp; done) | exact W32_len (by assumption) | exact Len.map (W32_len (by assumption)) _), (by first | assumption | (simp [maxLen]; done) | omega | (simp [maxLen]; omega)), (by first | omega | (simp only [Len] at *; omega) | (simp; omega)), ?_⟩; intro _ _ _ hM2 _ _; clear hM; have hM := hM2; clear hM2) | ((first | (with_reducible refine gL_field ?_) | ((with_reducible refine gG_field ?_ ?_); (exact wanted_of rfl rfl rfl rfl rfl))); refine ⟨_, _, rfl, (by (first | (exact field_one (fb_of rfl) rfl) | (exact field_agg (fa_of rfl) rfl))), ?_⟩))
      rw [HQ ()] at hM
      go_roundw
      case rel => exact ⟨q + 1, by have := HA (); omega, by have := HA (); go_num, hM⟩
      case measure => simp [intOf]; omega
    · have hqe : q = n / 64 := by have := HA (); omega
      have hae : a64 = n := by omega
      subst hae
      clear HS ha64
      rw [hqe] at hM hrl
      have hAt : ∀ i k, i < 8 → k < 4 → ∀ _ : Unit, gb O (4 * i + k) = (shr32 (gw (Sha.run PP (a64 / 64)) i) (24 - 8 * k)).toUInt8 := fun i k hi hk _ => by rw [← HF ()]; exact Sha.out_at _ hi hk
      clear HF HA HN64 hqe
      generalize Sha.run PP (a64 / 64) = R at *
      go_wp2_with (first | ((first | ((with_reducible refine gL_alloc (dst := some 7) hM ?_); refine ⟨_, _, (zr_of rfl), ?_⟩) | ((with_reducible refine gL_box (dst := some 7) hM ?_); refine ⟨_, _, _, rfl, rfl, (by first | assumption | exact Len.map (by assumption) _ | rfl | exact Len.map (by rfl) _ | exact Len.of (by simp; done) | exact W32_len (by assumption) | exact Len.map (W32_len (by assumption)) _), ?_⟩)); intro g7 _ hM2; clear hM; have hM := hM2; clear hM2) | go_skip | ((first | (with_reducible refine gL_load ?_) | ((with_reducible refine gG_load ?_ ?_); (exact wanted_of rfl rfl rfl rfl rfl))); refine ⟨_, _, rfl, (by (first | (assumption) | (exact hM.loads_B8 (by (repeat (first | exact .head _ | apply List.Mem.tail)); done) (on_of rfl) (by first | omega | (simp only [Len] at *; omega) | (simp; omega))) | (exact hM.loads_all (by (repeat (first | exact .head _ | apply List.Mem.tail)); done) (ag_of rfl) (by first | assumption | exact Len.map (by assumption) _ | rfl | exact Len.map (by rfl) _ | exact Len.of (by simp; done) | exact W32_len (by assumption) | exact Len.map (W32_len (by assumption)) _)) | (exact hM.loads_one (by (repeat (first | exact .head _ | apply List.Mem.tail)); done) (on_of rfl) rfl) | (exact hM.loads_W32 (by (repeat (first | exact .head _ | apply List.Mem.tail)); done) (on_of rfl) (by first | omega | (simp only [Len] at *; omega) | (simp; omega))) | (exact loads_cell (by assumption) (on_of rfl)))), ?_⟩) | ((with_reducible refine gL_store hM ?_); refine ⟨_, _, _, rfl, rfl, (by (first | (exact hM.stores_all (by (repeat (first | exact .here _ _ _ | apply Has.there)); done) (ag_of rfl) ks_w32 (by rfl) W32_one) | (exact hM.stores_B8 (by first | exact (rfl : B8 _ = B8 _) | exact lit8 _ (by decide)) (by (repeat (first | exact .here _ _ _ | apply Has.there)); done) (on_of rfl) (by first | omega | (simp only [Len] at *; omega) | (simp; omega))) | (exact hM.stores_all (by (repeat (first | exact .here _ _ _ | apply Has.there)); done) (ag_of rfl) (by first | assumption | exact Len.map (by assumption) _ | rfl | exact Len.map (by rfl) _ | exact Len.of (by simp; done) | exact W32_len (by assumption) | exact Len.map (W32_len (by assumption)) _) (by first | assumption | exact Len.map (by assumption) _ | rfl | exact Len.map (by rfl) _ | exact Len.of (by simp; done) | exact W32_len (by assumption) | exact Len.map (W32_len (by assumption)) _) (by first | exact B8_one | exact W32_one | exact one_of_all rfl)) | (exact hM.stores_W32 rfl (by (repeat (first | exact .here _ _ _ | apply Has.there)); done) (on_of rfl) (by first | omega | (simp only [Len] at *; omega) | (simp; omega))) | (exact hM.stores_one (by (repeat (first | exact .here _ _ _ | apply Has.there)); done) (on_of rfl) (by first | omega | (simp only [Len] at *; omega) | (simp; omega)) rfl rfl))), ?_⟩; intro _ hM2; clear hM; have hM := hM2; clear hM2) | ((with_reducible refine gL_alloc hM ?_); refine ⟨_, _, (zr_of rfl), ?_⟩; intro _ _ hM2; clear hM; have hM := hM2; clear hM2) | ((with_reducible refine gL_box hM ?_); refine ⟨_, _, _, rfl, rfl, (by first | assumption | exact Len.map (by assumption) _ | rfl | exact Len.map (by rfl) _ | exact Len.of (by simp; done) | exact W32_len (by assumption) | exact Len.map (W32_len (by assumption)) _), ?_⟩; intro _ _ hM2; clear hM; have hM := hM2; clear hM2) | ((with_reducible refine gL_build0 ?_); refine ⟨_, _, _, _, _, _, (zr_of rfl), (ua_of rfl), (ag_of rfl), (el_of rfl), ?_⟩) | ((with_reducible refine gL_buildBytes hM ?_); refine ⟨_, _, (us_of rfl), (el_of rfl), (by decide), (by decide), rfl, (by (repeat (first | exact EvB.nil | apply EvB.cons rfl (by first | exact (rfl : B8 _ = B8 _) | exact lit8 _ (by decide)))); done), ?_⟩; intro _ _ hM2; clear hM; have hM := hM2; clear hM2) | ((with_reducible refine gL_append_B hM ?_); refine ⟨_, _, _, _, _, _, _, _, _, _, rfl, rfl, (by first | exact (rfl : Value.slice (some ⟨_, 0, none⟩) _ _ = sl (some _) _ _) | exact (rfl : Value.slice none _ _ = sl none _ _) | rfl), (us_of rfl), (el_of rfl), (by first | exact hM.src (by (repeat (first | exact .head _ | apply List.Mem.tail)); done) | exact (hM.bytes0 (by assumption)).src), (fun _ _ => by (repeat (first | exact .here _ _ _ | apply Swap.there)); done), (by first | assumption | exact Len.map (by assumption) _ | rfl | exact Len.map (by rfl) _ | exact Len.of (by simp; done) | exact W32_len (by assumption) | exact Len.map (W32_len (by assumption)) _), (by first | assumption | exact Len.map (by assumption) _ | rfl | exact Len.map (by rfl) _ | exact Len.of (by simp; done) | exact W32_len (by assumption) | exact Len.map (W32_len (by assumption)) _), (by first | assumption | (simp [maxLen]; done) | omega | (simp [maxLen]; omega)), (by first | omega | (simp only [Len] at *; omega) | (simp; omega)), ?_⟩; intro _ _ _ hM2 _ _; clear hM; have hM := hM2; clear hM2) | ((first | (with_reducible refine gL_field ?_) | ((with_reducible refine gG_field ?_ ?_); (exact wanted_of rfl rfl rfl rfl rfl))); refine ⟨_, _, rfl, (by (first | (exact field_one (fb_of rfl) rfl) | (exact field_agg (fa_of rfl) rfl))), ?_⟩))
      rw [← filling_zero O 32] at hM
      have hXo : O.length = 32 := hol.eq
      go_loopw [8] (fun i wr => ∃ k : Nat, k ≤ 32 ∧ i = .int .i64 k ∧ Mem [] w0 wr [⟨some g7, 24, (filling O 32 k).map B8, 32⟩, ⟨some g5, 113, KS.map W32, 64⟩, ⟨some g4, 111, R.map W32, 8⟩, ⟨some gp, 5, PP.map B8, cap⟩, ⟨some g2, 24, (List.replicate 32 (0 : UInt8)).map B8, 32⟩]) (fun i _ => 32 - (intOf i).toNat)
      case atStart => exact ⟨0, by omega, rfl, hM⟩
      case round =>
        clear hM
        obtain ⟨k, hk, rfl, hM⟩ := hrel
        have hlE2 := filling_len hXo k hk
        by_cases hltk : k < 32
        · have htk : (k : Int) < 32 := by omega
          have hset := filling_set hXo hltk
          obtain ⟨i4, hi4⟩ : ∃ i4, i4 = k / 4 := ⟨_, rfl⟩
          obtain ⟨r4, hr4⟩ : ∃ r4, r4 = k % 4 := ⟨_, rfl⟩
          have hkk : k = 4 * i4 + r4 := by omega
          have hi8 : i4 < 8 := by omega
          have hr8 : r4 < 4 := by omega
          have hc1 : (k : Int) / 4 = (i4 : Int) := by omega
          have hc2 : (k : Int) % 4 = (r4 : Int) := by omega
          have hc24 : (24 : Int) - 8 * (r4 : Int) = ((24 - 8 * r4 : Nat) : Int) := by omega
          have hg := hAt i4 r4 hi8 hr8 ()
          rw [← hkk] at hg
          rw [hg] at hset
          have HS : ∀ _ : Unit, _ := fun _ => hset
          clear hset hg hkk hi4 hr4 hAt
          generalize filling O 32 k = F at *
          generalize 24 - 8 * r4 = k24 at *
          go_wp2_with (first | go_skip | ((first | (with_reducible refine gL_load ?_) | ((with_reducible refine gG_load ?_ ?_); (exact wanted_of rfl rfl rfl rfl rfl))); refine ⟨_, _, rfl, (by (first | (assumption) | (exact hM.loads_B8 (by (repeat (first | exact .head _ | apply List.Mem.tail)); done) (on_of rfl) (by first | omega | (simp only [Len] at *; omega) | (simp; omega))) | (exact hM.loads_all (by (repeat (first | exact .head _ | apply List.Mem.tail)); done) (ag_of rfl) (by first | assumption | exact Len.map (by assumption) _ | rfl | exact Len.map (by rfl) _ | exact Len.of (by simp; done) | exact W32_len (by assumption) | exact Len.map (W32_len (by assumption)) _)) | (exact hM.loads_one (by (repeat (first | exact .head _ | apply List.Mem.tail)); done) (on_of rfl) rfl) | (exact hM.loads_W32 (by (repeat (first | exact .head _ | apply List.Mem.tail)); done) (on_of rfl) (by first | omega | (simp only [Len] at *; omega) | (simp; omega))) | (exact loads_cell (by assumption) (on_of rfl)))), ?_⟩) | ((with_reducible refine gL_store hM ?_); refine ⟨_, _, _, rfl, rfl, (by (first | (exact hM.stores_all (by (repeat (first | exact .here _ _ _ | apply Has.there)); done) (ag_of rfl) ks_w32 (by rfl) W32_one) | (exact hM.stores_B8 (by first | exact (rfl : B8 _ = B8 _) | exact lit8 _ (by decide)) (by (repeat (first | exact .here _ _ _ | apply Has.there)); done) (on_of rfl) (by first | omega | (simp only [Len] at *; omega) | (simp; omega))) | (exact hM.stores_all (by (repeat (first | exact .here _ _ _ | apply Has.there)); done) (ag_of rfl) (by first | assumption | exact Len.map (by assumption) _ | rfl | exact Len.map (by rfl) _ | exact Len.of (by simp; done) | exact W32_len (by assumption) | exact Len.map (W32_len (by assumption)) _) (by first | assumption | exact Len.map (by assumption) _ | rfl | exact Len.map (by rfl) _ | exact Len.of (by simp; done) | exact W32_len (by assumption) | exact Len.map (W32_len (by assumption)) _) (by first | exact B8_one | exact W32_one | exact one_of_all rfl)) | (exact hM.stores_W32 rfl (by (repeat (first | exact .here _ _ _ | apply Has.there)); done) (on_of rfl) (by first | omega | (simp only [Len] at *; omega) | (simp; omega))) | (exact hM.stores_one (by (repeat (first | exact .here _ _ _ | apply Has.there)); done) (on_of rfl) (by first | omega | (simp only [Len] at *; omega) | (simp; omega)) rfl rfl))), ?_⟩; intro _ hM2; clear hM; have hM := hM2; clear hM2) | ((with_reducible refine gL_alloc hM ?_); refine ⟨_, _, (zr_of rfl), ?_⟩; intro _ _ hM2; clear hM; have hM := hM2; clear hM2) | ((with_reducible refine gL_box hM ?_); refine ⟨_, _, _, rfl, rfl, (by first | assumption | exact Len.map (by assumption) _ | rfl | exact Len.map (by rfl) _ | exact Len.of (by simp; done) | exact W32_len (by assumption) | exact Len.map (W32_len (by assumption)) _), ?_⟩; intro _ _ hM2; clear hM; have hM := hM2; clear hM2) | ((with_reducible refine gL_build0 ?_); refine ⟨_, _, _, _, _, _, (zr_of rfl), (ua_of rfl), (ag_of rfl), (el_of rfl), ?_⟩) | ((with_reducible refine gL_buildBytes hM ?_); refine ⟨_, _, (us_of rfl), (el_of rfl), (by decide), (by decide), rfl, (by (repeat (first | exact EvB.nil | apply EvB.cons rfl (by first | exact (rfl : B8 _ = B8 _) | exact lit8 _ (by decide)))); done), ?_⟩; intro _ _ hM2; clear hM; have hM := hM2; clear hM2) | ((with_reducible refine gL_append_B hM ?_); refine ⟨_, _, _, _, _, _, _, _, _, _, rfl, rfl, (by first | exact (rfl : Value.slice (some ⟨_, 0, none⟩) _ _ = sl (some _) _ _) | exact (rfl : Value.slice none _ _ = sl none _ _) | rfl), (us_of rfl), (el_of rfl), (by first | exact hM.src (by (repeat (first | exact .head _ | apply List.Mem.tail)); done) | exact (hM.bytes0 (by assumption)).src), (fun _ _ => by (repeat (first | exact .here _ _ _ | apply Swap.there)); done), (by first | assumption | exact Len.map (by assumption) _ | rfl | exact Len.map (by rfl) _ | exact Len.of (by simp; done) | exact W32_len (by assumption) | exact Len.map (W32_len (by assumption)) _), (by first | assumption | exact Len.map (by assumption) _ | rfl | exact Len.map (by rfl) _ | exact Len.of (by simp; done) | exact W32_len (by assumption) | exact Len.map (W32_len (by assumption)) _), (by first | assumption | (simp [maxLen]; done) | omega | (simp [maxLen]; omega)), (by first | omega | (simp only [Len] at *; omega) | (simp; omega)), ?_⟩; intro _ _ _ hM2 _ _; clear hM; have hM := hM2; clear hM2) | ((first | (with_reducible refine gL_field ?_) | ((with_reducible refine gG_field ?_ ?_); (exact wanted_of rfl rfl rfl rfl rfl))); refine ⟨_, _, rfl, (by (first | (exact field_one (fb_of rfl) rfl) | (exact field_agg (fa_of rfl) rfl))), ?_⟩))
          rw [HS ()] at hM
          go_roundw
          case rel => exact ⟨k + 1, by omega, by go_num, hM⟩
          case measure => simp [intOf]; omega
        · have : k = 32 := by omega
          subst this
          rw [filling_all hXo] at hM
          clear hAt
          go_wp2_with (first | ((with_reducible refine gL_load ?_); refine ⟨_, _, rfl, hM.loads_all (.head _) (ag_of rfl) (hol.map _), ?_⟩) |
            ((with_reducible refine gL_store hM ?_); refine ⟨_, _, _, rfl, rfl, hM.stores_all (by (repeat (first | exact .here _ _ _ | apply Has.there)); done) (ag_of rfl) (hol.map _) (by rfl) B8_one, ?_⟩; intro _ hM2; clear hM; have hM := hM2; clear hM2))
          exact hM.ret_cell rfl rfl rfl (.tail _ (.tail _ (.tail _ (.tail _ (.head _))))) (ag_of rfl) (hol.map _) ⟨rfl, hM.done⟩
end Go.Proofs.Ytejmbkljnhnklaa

namespace Go.Proofs.Ytejmbkljnhnklaa
open Go.RowKit Go.PK
theorem hash_eq (a b : List UInt8) (ha : Len a 32) (hb : Len b 32) : EqTo Try.prog 24 (a.map B8).toArray (b.map B8).toArray (a == b) :=
  ⟨by kernel_rfl, fun w => run_equalIn_arr (P := Try.prog) B8 0 Try.underlying24 Try.underlying5 (by kernel_rfl) (fun d x y w => equalIn_B8 Try.underlying5 d x y w) 9998 a b ha hb (w := w)⟩
theorem hash_self (a : List UInt8) (ha : Len a 32) : EqTo Try.prog 24 (a.map B8).toArray (a.map B8).toArray true := by
  have := hash_eq a a ha ha
  rwa [beq_self_eq_true] at this
end Go.Proofs.Ytejmbkljnhnklaa

namespace Go.Proofs.Ytejmbkljnhnklaa
open Go.RowKit Go.PK
end Go.Proofs.Ytejmbkljnhnklaa

namespace Go.PK.Mac
def base (key : List UInt8) : List UInt8 := if key.length > 64 then Sha.of key else key
/-- a key's block key -/
def block (key : List UInt8) : List UInt8 := base key ++ List.replicate (64 - (base key).length) 0
def over (b : List UInt8) (x : UInt8) : List UInt8 := b.map (· ^^^ x)
def inner (key m : List UInt8) : List UInt8 := over (block key) 0x36 ++ m
def tag (key m : List UInt8) : List UInt8 := Sha.of (over (block key) 0x5C ++ Sha.of (inner key m))
def derive (key label : List UInt8) : List UInt8 := tag key (label ++ [0, 1, 0, 0, 0])
theorem base_len (key : List UInt8) : (base key).length ≤ 64 := by
  unfold base
  split
  · rw [Sha.of_len]; omega
  · omega
theorem block_len (key : List UInt8) : (block key).length = 64 := by
  have := base_len key
  simp [block]
  omega
theorem over_len (b : List UInt8) (x : UInt8) : (over b x).length = b.length := by simp [over]
theorem tag_len (key m : List UInt8) : (tag key m).length = 32 := Sha.of_len _
theorem gb_over {b : List UInt8} {i : Nat} (h : i < b.length) (x : UInt8) : gb (over b x) i = gb b i ^^^ x := by
  unfold gb over
  rw [List.getD_eq_getElem?_getD, List.getD_eq_getElem?_getD, List.getElem?_map, List.getElem?_eq_getElem h]
  rfl
theorem over_take (b : List UInt8) (x : UInt8) {k : Nat} (h : k < b.length) : (over b x).take (k + 1) = (over b x).take k ++ [gb b k ^^^ x] := by
  rw [List.take_succ_eq_append_getElem (by rw [over_len]; exact h), ← gb_over h]
  unfold gb
  rw [List.getD_eq_getElem?_getD, List.getElem?_eq_getElem (by rw [over_len]; exact h)]
  rfl
end Go.PK.Mac

namespace Go.PK.Mac
def jefe : List UInt8 := [74, 101, 102, 101]
def want : List UInt8 := [119, 104, 97, 116, 32, 100, 111, 32, 121, 97, 32, 119, 97, 110, 116, 32, 102, 111, 114, 32, 110, 111, 116, 104, 105, 110, 103, 63]
def known : List UInt8 := [91, 220, 193, 70, 191, 96, 117, 78, 106, 4, 36, 38, 8, 149, 117, 199, 90, 0, 63, 8, 157, 39, 57, 131, 157, 236, 88, 185, 100, 236, 56, 67]
end Go.PK.Mac

namespace Go.PK.Mac
/-- what the bytes differ by, up to a place -/
def dif (a b : List UInt8) : Nat → UInt8
  | 0 => 0
  | k + 1 => dif a b k ||| (gb a k ^^^ gb b k)
theorem or_zero8 (x y : UInt8) : x ||| y = 0 ↔ x = 0 ∧ y = 0 := by
  constructor
  · intro h
    have := congrArg UInt8.toNat h
    rw [UInt8.toNat_or] at this
    have h2 : x.toNat ||| y.toNat = 0 := this
    rw [Nat.or_eq_zero_iff] at h2
    exact ⟨UInt8.toNat_inj.1 h2.1, UInt8.toNat_inj.1 h2.2⟩
  · rintro ⟨rfl, rfl⟩
    rfl
theorem xor_zero8 (x y : UInt8) : x ^^^ y = 0 ↔ x = y := by
  constructor
  · intro h
    have := congrArg (· ^^^ y) h
    simp only [UInt8.xor_assoc, UInt8.xor_self, UInt8.xor_zero, UInt8.zero_xor] at this
    exact this
  · rintro rfl
    exact UInt8.xor_self
theorem dif_zero (a b : List UInt8) (k : Nat) : dif a b k = 0 ↔ ∀ i, i < k → gb a i = gb b i := by
  induction k with
  | zero => simp [dif]
  | succ k ih =>
    rw [dif, or_zero8, ih, xor_zero8]
    constructor
    · rintro ⟨h1, h2⟩ i hi
      rcases Nat.lt_succ_iff_lt_or_eq.1 hi with h | rfl
      · exact h1 i h
      · exact h2
    · exact fun h => ⟨fun i hi => h i (by omega), h k (by omega)⟩
theorem gb_ext {a b : List UInt8} (hl : a.length = b.length) : (∀ i, i < a.length → gb a i = gb b i) ↔ a = b := by
  constructor
  · intro h
    refine List.ext_getElem hl fun i h1 h2 => ?_
    have := h i h1
    unfold gb at this
    rw [List.getD_eq_getElem?_getD, List.getD_eq_getElem?_getD, List.getElem?_eq_getElem h1, List.getElem?_eq_getElem h2] at this
    exact this
  · rintro rfl
    exact fun _ _ => rfl
theorem dif_eq {a b : List UInt8} (hl : a.length = b.length) : (dif a b a.length == 0) = (a == b) := by
  rw [Bool.eq_iff_iff, beq_iff_eq, beq_iff_eq, dif_zero, gb_ext hl]
end Go.PK.Mac
namespace Go.Proofs.Ytejmbkljnhnklaa
open Go.RowKit Go.PK
set_option maxRecDepth 100000 in
set_option maxHeartbeats 4000000 in
theorem mac_Equal (w0 : World) (v1 v2 : Value) (a b : List UInt8) (hv1 : Bytes w0 v1 a) (hv2 : Bytes w0 v2 b) (x : Bool) (hx : (a == b) = x) :
    Calls Try.prog 25 #[v1, v2] w0 fun e w' => e = .returned (.bool x) ∧ Below w0.heap.size w0 w' := by
  have hM := Mem.start w0
  obtain ⟨ao1, cap1, rfl, e1, e2, -⟩ := id hv1
  obtain ⟨ao2, cap2, rfl, f1, f2, -⟩ := id hv2
  obtain ⟨na, hna⟩ : ∃ n, n = a.length := ⟨_, rfl⟩
  obtain ⟨nb, hnb⟩ : ∃ n, n = b.length := ⟨_, rfl⟩
  rw [← hna] at hv1 e1 ⊢
  rw [← hnb] at hv2 f1 ⊢
  have HX : ∀ _ : Unit, (a == b) = x := fun _ => hx
  have HA : ∀ _ : Unit, na = a.length := fun _ => hna
  have HB : ∀ _ : Unit, nb = b.length := fun _ => hnb
  clear hx hna hnb
  go_enter Try.func25, Try.ntmps25
  by_cases hl : na = nb
  · subst hl
    go_wp2
    go_loopw [5, 6, 14] (fun d _ i wr => ∃ k : Nat, k ≤ na ∧ i = .int .i64 k ∧ d = B8 (Mac.dif a b k) ∧ Mem [] w0 wr []) (fun _ _ i _ => na - (intOf i).toNat)
    case atStart => exact ⟨0, by omega, rfl, rfl, hM⟩
    case round =>
      clear hM
      obtain ⟨k, hk, rfl, rfl, hM⟩ := hrel
      by_cases hlt : k < na
      · have hti : (k : Int) < (na : Int) := by omega
        obtain ⟨b1, o1, he1, -, c1⟩ := (hM.bytes0 hv1).at (k := k) (by rw [← HA ()]; exact hlt)
        obtain ⟨b2, o2, he2, -, c2⟩ := (hM.bytes0 hv2).at (k := k) (by rw [← HB ()]; exact hlt)
        subst he1
        subst he2
        have HD : ∀ _ : Unit, Mac.dif a b (k + 1) = Mac.dif a b k ||| (a.getD k 0 ^^^ b.getD k 0) := fun _ => rfl
        generalize Mac.dif a b k = d at *
        generalize a.getD k 0 = xa at *
        generalize b.getD k 0 = xb at *
        go_wp2
        go_region
        all_goals go_wp2
        all_goals
          replace hM := hM.drew
          go_roundw
          case rel => exact ⟨k + 1, by omega, by go_num, by rw [HD ()], hM⟩
          case measure => simp [intOf]; omega
      · have hke : k = na := by omega
        subst hke
        have hd : (Mac.dif a b k == 0) = x := by rw [HA (), Mac.dif_eq (by rw [← HA (), ← HB ()]), HX ()]
        generalize Mac.dif a b k = d at *
        go_wp2
        go_ret
        exact ⟨by first | rfl | (rw [← hd]; rfl), hM.done⟩
  · have hxf : x = false := by
      rw [← HX ()]
      exact beq_eq_false_iff_ne.2 fun h => hl (by rw [HA (), HB (), h])
    have hne : ¬ (na : Int) = (nb : Int) := by omega
    subst hxf
    go_wp2
    go_ret
    exact ⟨rfl, hM.done⟩
end Go.Proofs.Ytejmbkljnhnklaa
