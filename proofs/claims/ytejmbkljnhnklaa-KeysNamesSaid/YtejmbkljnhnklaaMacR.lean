/-
  The walks of the reference of layer 3: over, block, Of.
-/
import Derived.Test.YtejmbkljnhnklaaShaO
import Derived.Test.YtejmbkljnhnklaaMacSpec
namespace Go.PK
open Go.RowKit
theorem gL_buildEmpty {P : Program} {Q : Exit → Act → World → Prop} {ops : Array Oper} {rest : List Oper} {a : Act} {G : List Nat} {w0 w : World} {L : List Blk} {dst : Option Tmp} {type : TypeId} {pos : String} {after : Array Edge}
    (hM : Mem G w0 w L) {t : TypeId} (h : ∃ e es eb, P.underlying t = some (.slice e) ∧ El P e es eb ∧ ∀ g w', Mem G w0 w' (⟨some g, e, ([] : List UInt8).map B8, 0⟩ :: L) → wpList P ops Q rest (a.put dst (.slice (some ⟨g, 0, none⟩) 0 0)) w') :
    wpList P ops Q (Oper.mk dst (.buildSlice t 0 #[]) type pos after none :: rest) a w := by
  obtain ⟨e, es, eb, hu, hel, h⟩ := h
  refine wpList_plain rfl fun K hk => ?_
  obtain ⟨z, hinfo, hzs, hsz⟩ := hel
  obtain ⟨i, hi, hz0, hsize, hby⟩ := info_parts hinfo
  have hrun : (Instr.buildSlice t 0 #[]).run P w = .ok (.slice (some ⟨w.heap.size, 0, none⟩) 0 0) (w.alloc (.cells ([] : List Value).toArray e)) := by
    simp [Instr.buildSlice, run_underlying hu, sizeOf, typeInfo, hi, Instr.fill, newRow]
    exact congrArg (fun c => w.alloc (.cells c e)) (by apply Array.ext <;> simp)
  unfold Oper.wp execOp
  simp only [List.map_toArray, List.map_nil, Sem.run_bind, Sem.run_pure, Result.andThen_ok, hrun]
  exact hk _ _ (h _ _ (hM.alloc [] e))
end Go.PK
namespace Go.Proofs.Ytejmbkljnhnklaa
open Go.RowKit Go.PK
set_option maxRecDepth 100000 in
set_option maxHeartbeats 4000000 in
theorem ref03_over (w0 : World) (v : Value) (b : List UInt8) (hv : Bytes w0 v b) (x : UInt8) (hlen : b.length ≤ 64) (O : List UInt8) (hO : Mac.over b x = O) :
    Calls Try.prog 70 #[v, B8 x] w0 fun e w' => ∃ g cap, e = .returned (.slice (some ⟨g, 0, none⟩) b.length cap) ∧ cap ≤ maxLen ∧ Mem [] w0 w' [⟨some g, 5, O.map B8, cap⟩] := by
  have hM := Mem.start w0
  obtain ⟨ao, cap0, rfl, e1, e2, -⟩ := id hv
  obtain ⟨n, hn⟩ : ∃ n, n = b.length := ⟨_, rfl⟩
  have hol : O.length = n := by rw [← hO, Mac.over_len, hn]
  have HT : ∀ k, k < n → ∀ _ : Unit, O.take k ++ [b.getD k 0 ^^^ x] = O.take (k + 1) := fun k hk _ => by rw [← hO, Mac.over_take b x (by omega)]; rfl
  have HNb : ∀ _ : Unit, n = b.length := fun _ => hn
  rw [← hn] at hv e1 hlen ⊢
  clear hn hO
  go_enter Try.func70, Try.ntmps70
  go_wp2_with (first | ((with_reducible refine gL_buildEmpty hM ?_); refine ⟨_, _, _, (us_of rfl), (el_of rfl), ?_⟩; intro g5 _ hM2; clear hM; have hM := hM2; clear hM2))
  rw [show ([] : List UInt8) = O.take 0 from rfl] at hM
  go_loopw [5, 6] (fun p i wr => ∃ (k g cap : Nat), k ≤ n ∧ i = .int .i64 k ∧ p = .slice (some ⟨g, 0, none⟩) k cap ∧ cap ≤ maxLen ∧ Mem [] w0 wr [⟨some g, 5, (O.take k).map B8, cap⟩]) (fun _ i _ => n - (intOf i).toNat)
  case atStart => exact ⟨0, g5, 0, by omega, rfl, rfl, by decide, hM⟩
  case round =>
    clear hM
    obtain ⟨k, g, cap, hk, rfl, rfl, hcap, hM⟩ := hrel
    have hl3 : Len (O.take k) k := Len.of (by simp [hol]; omega)
    by_cases hlt : k < n
    · have hti : (k : Int) < (n : Int) := by omega
      obtain ⟨b1, o1, he1, -, c1⟩ := (hM.bytes0 hv).at (k := k) (by rw [← HNb ()]; exact hlt)
      subst he1
      have hX1 := HT k hlt
      clear HT
      generalize b.getD k 0 = y at *
      generalize hA : O.take k = A at *
      clear hA
      go_wp2_with (first | ((with_reducible refine gL_append_B hM ?_); refine ⟨_, _, some g, k, cap, 5, A, [y ^^^ x], 1, fun ob' cap' => [_, ⟨ob', 5, (A ++ [y ^^^ x]).map B8, cap'⟩], rfl, rfl, rfl, (us_of rfl), (el_of rfl), hM.src (.head _), fun _ _ => .there _ (.here _ _ _), hl3, rfl, hcap, by omega, ?_⟩; intro ob1 cap1 _ hM2 hd1 hd2; clear hM; have hM := hM2; clear hM2) | go_skip | ((first | (with_reducible refine gL_load ?_) | ((with_reducible refine gG_load ?_ ?_); (exact wanted_of rfl rfl rfl rfl rfl))); refine ⟨_, _, rfl, (by (first | (assumption) | (exact hM.loads_B8 (by (repeat (first | exact .head _ | apply List.Mem.tail)); done) (on_of rfl) (by first | omega | (simp only [Len] at *; omega) | (simp; omega))) | (exact hM.loads_all (by (repeat (first | exact .head _ | apply List.Mem.tail)); done) (ag_of rfl) (by first | assumption | exact Len.map (by assumption) _ | rfl | exact Len.map (by rfl) _ | exact Len.of (by simp; done))) | (exact hM.loads_one (by (repeat (first | exact .head _ | apply List.Mem.tail)); done) (on_of rfl) rfl) | (exact hM.loads_W32 (by (repeat (first | exact .head _ | apply List.Mem.tail)); done) (on_of rfl) (by first | omega | (simp only [Len] at *; omega) | (simp; omega))) | (exact loads_cell (by assumption) (on_of rfl)))), ?_⟩) | ((with_reducible refine gL_store hM ?_); refine ⟨_, _, _, rfl, rfl, (by (first | (exact hM.stores_B8 (by first | exact (rfl : B8 _ = B8 _) | exact lit8 _ (by decide)) (by (repeat (first | exact .here _ _ _ | apply Has.there)); done) (on_of rfl) (by first | omega | (simp only [Len] at *; omega) | (simp; omega))) | (exact hM.stores_all (by (repeat (first | exact .here _ _ _ | apply Has.there)); done) (ag_of rfl) (by first | assumption | exact Len.map (by assumption) _ | rfl | exact Len.map (by rfl) _ | exact Len.of (by simp; done)) (by first | assumption | exact Len.map (by assumption) _ | rfl | exact Len.map (by rfl) _ | exact Len.of (by simp; done)) (by first | exact B8_one | exact W32_one | exact one_of_all rfl)) | (exact hM.stores_W32 rfl (by (repeat (first | exact .here _ _ _ | apply Has.there)); done) (on_of rfl) (by first | omega | (simp only [Len] at *; omega) | (simp; omega))) | (exact hM.stores_one (by (repeat (first | exact .here _ _ _ | apply Has.there)); done) (on_of rfl) (by first | omega | (simp only [Len] at *; omega) | (simp; omega)) rfl rfl))), ?_⟩; intro _ hM2; clear hM; have hM := hM2; clear hM2) | ((with_reducible refine gL_alloc hM ?_); refine ⟨_, _, (zr_of rfl), ?_⟩; intro _ _ hM2; clear hM; have hM := hM2; clear hM2) | ((with_reducible refine gL_box hM ?_); refine ⟨_, _, _, rfl, rfl, (by first | assumption | exact Len.map (by assumption) _ | rfl | exact Len.map (by rfl) _ | exact Len.of (by simp; done)), ?_⟩; intro _ _ hM2; clear hM; have hM := hM2; clear hM2) | ((with_reducible refine gL_build0 ?_); refine ⟨_, _, _, _, _, _, (zr_of rfl), (ua_of rfl), (ag_of rfl), (el_of rfl), ?_⟩) | ((with_reducible refine gL_buildBytes hM ?_); refine ⟨_, _, (us_of rfl), (el_of rfl), (by decide), (by decide), rfl, (by (repeat (first | exact EvB.nil | apply EvB.cons rfl (by first | exact (rfl : B8 _ = B8 _) | exact lit8 _ (by decide)))); done), ?_⟩; intro _ _ hM2; clear hM; have hM := hM2; clear hM2) | ((with_reducible refine gL_append_B hM ?_); refine ⟨_, _, _, _, _, _, _, _, _, _, rfl, rfl, (by first | exact (rfl : Value.slice (some ⟨_, 0, none⟩) _ _ = sl (some _) _ _) | exact (rfl : Value.slice none _ _ = sl none _ _) | rfl), (us_of rfl), (el_of rfl), (by first | exact hM.src (by (repeat (first | exact .head _ | apply List.Mem.tail)); done) | exact (hM.bytes0 (by assumption)).src), (fun _ _ => by (repeat (first | exact .here _ _ _ | apply Swap.there)); done), (by first | assumption | exact Len.map (by assumption) _ | rfl | exact Len.map (by rfl) _ | exact Len.of (by simp; done)), (by first | assumption | exact Len.map (by assumption) _ | rfl | exact Len.map (by rfl) _ | exact Len.of (by simp; done)), (by first | assumption | (simp [maxLen]; done) | omega | (simp [maxLen]; omega)), (by first | omega | (simp only [Len] at *; omega) | (simp; omega)), ?_⟩; intro _ _ _ hM2 _ _; clear hM; have hM := hM2; clear hM2) | ((first | (with_reducible refine gL_field ?_) | ((with_reducible refine gG_field ?_ ?_); (exact wanted_of rfl rfl rfl rfl rfl))); refine ⟨_, _, rfl, (by (first | (exact field_one (fb_of rfl) rfl) | (exact field_agg (fa_of rfl) rfl))), ?_⟩))
      have hl4 : Len (A ++ [y ^^^ x]) (k + 1) := Len.of (by rw [List.length_append, hl3.eq]; rfl)
      obtain ⟨gq, hgq⟩ := hM.some_of (.tail _ (.head _)) (hl4.map B8) (by omega)
      subst hgq
      have hM1 := hM.drop
      rw [hX1 ()] at hM1
      go_roundw
      case rel => exact ⟨k + 1, gq, cap1, by omega, by go_num, rfl, hd2, hM1⟩
      case measure => simp [intOf]; omega
    · have hke : k = n := by omega
      subst hke
      rw [List.take_of_length_le (by omega)] at hM
      clear HT
      go_wp2
      go_ret
      exact ⟨g, cap, rfl, hcap, hM⟩
set_option maxRecDepth 100000 in
set_option maxHeartbeats 4000000 in
theorem ref03_block (w0 : World) (v : Value) (key : List UInt8) (hv : Bytes w0 v key) (hlen : key.length ≤ 140737488355000) (K : List UInt8) (hK : Mac.block key = K) :
    Calls Try.prog 69 #[v] w0 fun e w' => ∃ g cap, e = .returned (.slice (some ⟨g, 0, none⟩) 64 cap) ∧ cap ≤ maxLen ∧ Mem [] w0 w' [⟨some g, 5, K.map B8, cap⟩] := by
  have hM := Mem.start w0
  obtain ⟨B, hB⟩ : ∃ B, B = Mac.base key := ⟨_, rfl⟩
  have hBl : B.length ≤ 64 := by rw [hB]; exact Mac.base_len _
  have HK : ∀ _ : Unit, K = B ++ List.replicate (64 - B.length) 0 := fun _ => by rw [← hK, hB]; rfl
  have hb1 : key.length > 64 → B = Sha.of key := fun h => by rw [hB]; exact if_pos h
  have hb2 : ¬ key.length > 64 → B = key := fun h => by rw [hB]; exact if_neg h
  clear hB hK
  obtain ⟨ao, cap0, rfl, e1, e2, -⟩ := id hv
  have hl0 : Len ([] : List UInt8) 0 := rfl
  go_enter Try.func69, Try.ntmps69
  by_cases h64 : key.length > 64
  · have h64i : (64 : Int) < (key.length : Int) := by omega
    have hof : ∀ w, Bytes w (.slice ao key.length cap0) key → Calls Try.prog 19 #[.slice ao key.length cap0] w fun e w' => e = .returned (.agg (B.map B8).toArray) ∧ Below w.heap.size w w' := fun w h => by rw [hb1 h64]; exact ref02_Of w _ key h hlen
    have hB32 : Len B 32 := by rw [hb1 h64]; exact Len.of (Sha.of_len _)
    clear hb1 hb2
    go_wp2_with (first | ((with_reducible refine gL_buildEmpty hM ?_); refine ⟨_, _, _, (us_of rfl), (el_of rfl), ?_⟩; intro g5 _ hM2; clear hM; have hM := hM2; clear hM2) | ((first | ((with_reducible refine gL_alloc (dst := some 4) hM ?_); refine ⟨_, _, (zr_of rfl), ?_⟩) | ((with_reducible refine gL_box (dst := some 4) hM ?_); refine ⟨_, _, _, rfl, rfl, (by first | assumption | exact Len.map (by assumption) _ | rfl | exact Len.map (by rfl) _ | exact Len.of (by simp; done)), ?_⟩)); intro g4 _ hM2; clear hM; have hM := hM2; clear hM2) |
      (go_at_call 19; have hvw := hM.bytes0 hv; (with_reducible refine (hof _ hvw).mono ?_); clear hvw; rintro _ _ ⟨rfl, B1⟩; replace hM := hM.adds B1; clear B1) |
      ((with_reducible refine gL_store hM ?_); refine ⟨_, _, _, rfl, rfl, hM.stores_all (by (repeat (first | exact .here _ _ _ | apply Has.there)); done) (ag_of rfl) (hB32.map _) (by rfl) B8_one, ?_⟩; intro _ hM2; clear hM; have hM := hM2; clear hM2) |
      ((with_reducible refine gL_slice ?_); refine ⟨_, slice_arr_all (ua_of rfl) (by exact elOne rfl), ?_⟩) |
      ((with_reducible refine gL_append_B hM ?_); refine ⟨_, _, some g5, 0, 0, 5, [], B, 32, fun ob' cap' => [_, ⟨ob', 5, ([] ++ B).map B8, cap'⟩], rfl, rfl, rfl, (us_of rfl), (el_of rfl), hM.src (.head _), fun _ _ => .there _ (.here _ _ _), hl0, hB32, by decide, by omega, ?_⟩; rw [List.nil_append, Nat.zero_add]; intro ob1 cap2 _ hM2 hc1 hc2; clear hM; have hM := hM2; clear hM2))
    have hM0 := hM.drop
    clear hM
    rw [show sl ob1 32 cap2 = sl ob1 B.length cap2 from by rw [hB32.eq]]
    go_loopw [3] (fun p wr => ∃ (j n : Nat) (ob : Option Nat) (cap : Nat), n = B.length + j ∧ n ≤ 64 ∧ p = sl ob n cap ∧ cap ≤ maxLen ∧ Mem [] w0 wr [⟨ob, 5, (B ++ List.replicate j 0).map B8, cap⟩]) (fun p _ => 64 - slLen p)
    case atStart => exact ⟨0, _, ob1, cap2, rfl, by omega, by simp, hc2, by rw [List.replicate_zero, List.append_nil]; exact hM0⟩
    case round =>
      clear hM0 hc1 hc2
      obtain ⟨j, n, ob, cap, hn, hn64, rfl, hcap, hM⟩ := hrel
      have hX : B.length + j = 64 → ∀ _ : Unit, B ++ List.replicate j 0 = K := fun hj _ => by rw [HK (), show j = 64 - B.length from by omega]
      have hl3 : Len (B ++ List.replicate j 0) n := Len.of (by simp; omega)
      have hX1 : ∀ _ : Unit, B ++ List.replicate j 0 ++ [0] = B ++ List.replicate (j + 1) 0 := fun _ => by rw [List.replicate_succ', List.append_assoc]
      generalize B ++ List.replicate j 0 = X at *
      have HN : ∀ _ : Unit, n = B.length + j := fun _ => hn
      clear hn
      by_cases hlt : n < 64
      · have hti : (n : Int) < 64 := by omega
        go_wp2_with (first | ((with_reducible refine gL_append_B hM ?_); refine ⟨_, _, ob, n, cap, 5, X, [0], 1, fun ob' cap' => [_, ⟨ob', 5, (X ++ [0]).map B8, cap'⟩], rfl, rfl, rfl, (us_of rfl), (el_of rfl), hM.src (.head _), fun _ _ => .there _ (.here _ _ _), hl3, rfl, hcap, by omega, ?_⟩; intro ob1 cap1 _ hM2 hd1 hd2; clear hM; have hM := hM2; clear hM2) | go_skip | ((first | (with_reducible refine gL_load ?_) | ((with_reducible refine gG_load ?_ ?_); (exact wanted_of rfl rfl rfl rfl rfl))); refine ⟨_, _, rfl, (by (first | (assumption) | (exact hM.loads_B8 (by (repeat (first | exact .head _ | apply List.Mem.tail)); done) (on_of rfl) (by first | omega | (simp only [Len] at *; omega) | (simp; omega))) | (exact hM.loads_all (by (repeat (first | exact .head _ | apply List.Mem.tail)); done) (ag_of rfl) (by first | assumption | exact Len.map (by assumption) _ | rfl | exact Len.map (by rfl) _ | exact Len.of (by simp; done))) | (exact hM.loads_one (by (repeat (first | exact .head _ | apply List.Mem.tail)); done) (on_of rfl) rfl) | (exact hM.loads_W32 (by (repeat (first | exact .head _ | apply List.Mem.tail)); done) (on_of rfl) (by first | omega | (simp only [Len] at *; omega) | (simp; omega))) | (exact loads_cell (by assumption) (on_of rfl)))), ?_⟩) | ((with_reducible refine gL_store hM ?_); refine ⟨_, _, _, rfl, rfl, (by (first | (exact hM.stores_B8 (by first | exact (rfl : B8 _ = B8 _) | exact lit8 _ (by decide)) (by (repeat (first | exact .here _ _ _ | apply Has.there)); done) (on_of rfl) (by first | omega | (simp only [Len] at *; omega) | (simp; omega))) | (exact hM.stores_all (by (repeat (first | exact .here _ _ _ | apply Has.there)); done) (ag_of rfl) (by first | assumption | exact Len.map (by assumption) _ | rfl | exact Len.map (by rfl) _ | exact Len.of (by simp; done)) (by first | assumption | exact Len.map (by assumption) _ | rfl | exact Len.map (by rfl) _ | exact Len.of (by simp; done)) (by first | exact B8_one | exact W32_one | exact one_of_all rfl)) | (exact hM.stores_W32 rfl (by (repeat (first | exact .here _ _ _ | apply Has.there)); done) (on_of rfl) (by first | omega | (simp only [Len] at *; omega) | (simp; omega))) | (exact hM.stores_one (by (repeat (first | exact .here _ _ _ | apply Has.there)); done) (on_of rfl) (by first | omega | (simp only [Len] at *; omega) | (simp; omega)) rfl rfl))), ?_⟩; intro _ hM2; clear hM; have hM := hM2; clear hM2) | ((with_reducible refine gL_alloc hM ?_); refine ⟨_, _, (zr_of rfl), ?_⟩; intro _ _ hM2; clear hM; have hM := hM2; clear hM2) | ((with_reducible refine gL_box hM ?_); refine ⟨_, _, _, rfl, rfl, (by first | assumption | exact Len.map (by assumption) _ | rfl | exact Len.map (by rfl) _ | exact Len.of (by simp; done)), ?_⟩; intro _ _ hM2; clear hM; have hM := hM2; clear hM2) | ((with_reducible refine gL_build0 ?_); refine ⟨_, _, _, _, _, _, (zr_of rfl), (ua_of rfl), (ag_of rfl), (el_of rfl), ?_⟩) | ((with_reducible refine gL_buildBytes hM ?_); refine ⟨_, _, (us_of rfl), (el_of rfl), (by decide), (by decide), rfl, (by (repeat (first | exact EvB.nil | apply EvB.cons rfl (by first | exact (rfl : B8 _ = B8 _) | exact lit8 _ (by decide)))); done), ?_⟩; intro _ _ hM2; clear hM; have hM := hM2; clear hM2) | ((with_reducible refine gL_append_B hM ?_); refine ⟨_, _, _, _, _, _, _, _, _, _, rfl, rfl, (by first | exact (rfl : Value.slice (some ⟨_, 0, none⟩) _ _ = sl (some _) _ _) | exact (rfl : Value.slice none _ _ = sl none _ _) | rfl), (us_of rfl), (el_of rfl), (by first | exact hM.src (by (repeat (first | exact .head _ | apply List.Mem.tail)); done) | exact (hM.bytes0 (by assumption)).src), (fun _ _ => by (repeat (first | exact .here _ _ _ | apply Swap.there)); done), (by first | assumption | exact Len.map (by assumption) _ | rfl | exact Len.map (by rfl) _ | exact Len.of (by simp; done)), (by first | assumption | exact Len.map (by assumption) _ | rfl | exact Len.map (by rfl) _ | exact Len.of (by simp; done)), (by first | assumption | (simp [maxLen]; done) | omega | (simp [maxLen]; omega)), (by first | omega | (simp only [Len] at *; omega) | (simp; omega)), ?_⟩; intro _ _ _ hM2 _ _; clear hM; have hM := hM2; clear hM2) | ((first | (with_reducible refine gL_field ?_) | ((with_reducible refine gG_field ?_ ?_); (exact wanted_of rfl rfl rfl rfl rfl))); refine ⟨_, _, rfl, (by (first | (exact field_one (fb_of rfl) rfl) | (exact field_agg (fa_of rfl) rfl))), ?_⟩))
        have hM1 := hM.drop
        rw [hX1 ()] at hM1
        go_roundw
        case rel => exact ⟨j + 1, n + 1, ob1, cap1, by have := HN (); omega, by omega, rfl, hd2, hM1⟩
        case measure => simp only [slLen]; omega
      · have hne : n = 64 := by omega
        subst hne
        have hXK := hX (HN ()).symm
        obtain ⟨gp, hgp⟩ := hM.some_of (.head _) (hl3.map B8) (by omega)
        subst hgp
        clear hX hX1 HN
        rw [hXK ()] at hM
        go_wp2
        go_ret
        exact ⟨gp, cap, rfl, hcap, hM⟩
  · have h64i : ¬ (64 : Int) < (key.length : Int) := by omega
    have hBk : B = key := hb2 h64
    have hKl : Len B key.length := by rw [hBk]; rfl
    have hvB : ∀ w, Bytes w (.slice ao key.length cap0) key → Src w (.slice ao key.length cap0) key.length (B.map B8) := fun w h => by rw [hBk]; exact h.src
    have HBk : ∀ _ : Unit, key.length = B.length := fun _ => by rw [hBk]
    clear hBk hb1 hb2
    go_wp2_with (first | ((with_reducible refine gL_buildEmpty hM ?_); refine ⟨_, _, _, (us_of rfl), (el_of rfl), ?_⟩; intro g5 _ hM2; clear hM; have hM := hM2; clear hM2) |
      ((with_reducible refine gL_append_B hM ?_); refine ⟨_, _, some g5, 0, 0, 5, [], B, key.length, fun ob' cap' => [⟨ob', 5, ([] ++ B).map B8, cap'⟩], rfl, rfl, rfl, (us_of rfl), (el_of rfl), hvB _ (hM.bytes0 hv), fun _ _ => .here _ _ _, hl0, hKl, by decide, by omega, ?_⟩; rw [List.nil_append, Nat.zero_add]; intro ob1 cap2 _ hM2 hc1 hc2; clear hM; have hM := hM2; clear hM2))
    have hM0 := hM
    clear hM
    rw [show sl ob1 key.length cap2 = sl ob1 B.length cap2 from by rw [HBk ()]]
    go_loopw [3] (fun p wr => ∃ (j n : Nat) (ob : Option Nat) (cap : Nat), n = B.length + j ∧ n ≤ 64 ∧ p = sl ob n cap ∧ cap ≤ maxLen ∧ Mem [] w0 wr [⟨ob, 5, (B ++ List.replicate j 0).map B8, cap⟩]) (fun p _ => 64 - slLen p)
    case atStart => exact ⟨0, _, ob1, cap2, rfl, by omega, by simp, hc2, by rw [List.replicate_zero, List.append_nil]; exact hM0⟩
    case round =>
      clear hM0 hc1 hc2
      obtain ⟨j, n, ob, cap, hn, hn64, rfl, hcap, hM⟩ := hrel
      have hX : B.length + j = 64 → ∀ _ : Unit, B ++ List.replicate j 0 = K := fun hj _ => by rw [HK (), show j = 64 - B.length from by omega]
      have hl3 : Len (B ++ List.replicate j 0) n := Len.of (by simp; omega)
      have hX1 : ∀ _ : Unit, B ++ List.replicate j 0 ++ [0] = B ++ List.replicate (j + 1) 0 := fun _ => by rw [List.replicate_succ', List.append_assoc]
      generalize B ++ List.replicate j 0 = X at *
      have HN : ∀ _ : Unit, n = B.length + j := fun _ => hn
      clear hn
      by_cases hlt : n < 64
      · have hti : (n : Int) < 64 := by omega
        go_wp2_with (first | ((with_reducible refine gL_append_B hM ?_); refine ⟨_, _, ob, n, cap, 5, X, [0], 1, fun ob' cap' => [_, ⟨ob', 5, (X ++ [0]).map B8, cap'⟩], rfl, rfl, rfl, (us_of rfl), (el_of rfl), hM.src (.head _), fun _ _ => .there _ (.here _ _ _), hl3, rfl, hcap, by omega, ?_⟩; intro ob1 cap1 _ hM2 hd1 hd2; clear hM; have hM := hM2; clear hM2) | go_skip | ((first | (with_reducible refine gL_load ?_) | ((with_reducible refine gG_load ?_ ?_); (exact wanted_of rfl rfl rfl rfl rfl))); refine ⟨_, _, rfl, (by (first | (assumption) | (exact hM.loads_B8 (by (repeat (first | exact .head _ | apply List.Mem.tail)); done) (on_of rfl) (by first | omega | (simp only [Len] at *; omega) | (simp; omega))) | (exact hM.loads_all (by (repeat (first | exact .head _ | apply List.Mem.tail)); done) (ag_of rfl) (by first | assumption | exact Len.map (by assumption) _ | rfl | exact Len.map (by rfl) _ | exact Len.of (by simp; done))) | (exact hM.loads_one (by (repeat (first | exact .head _ | apply List.Mem.tail)); done) (on_of rfl) rfl) | (exact hM.loads_W32 (by (repeat (first | exact .head _ | apply List.Mem.tail)); done) (on_of rfl) (by first | omega | (simp only [Len] at *; omega) | (simp; omega))) | (exact loads_cell (by assumption) (on_of rfl)))), ?_⟩) | ((with_reducible refine gL_store hM ?_); refine ⟨_, _, _, rfl, rfl, (by (first | (exact hM.stores_B8 (by first | exact (rfl : B8 _ = B8 _) | exact lit8 _ (by decide)) (by (repeat (first | exact .here _ _ _ | apply Has.there)); done) (on_of rfl) (by first | omega | (simp only [Len] at *; omega) | (simp; omega))) | (exact hM.stores_all (by (repeat (first | exact .here _ _ _ | apply Has.there)); done) (ag_of rfl) (by first | assumption | exact Len.map (by assumption) _ | rfl | exact Len.map (by rfl) _ | exact Len.of (by simp; done)) (by first | assumption | exact Len.map (by assumption) _ | rfl | exact Len.map (by rfl) _ | exact Len.of (by simp; done)) (by first | exact B8_one | exact W32_one | exact one_of_all rfl)) | (exact hM.stores_W32 rfl (by (repeat (first | exact .here _ _ _ | apply Has.there)); done) (on_of rfl) (by first | omega | (simp only [Len] at *; omega) | (simp; omega))) | (exact hM.stores_one (by (repeat (first | exact .here _ _ _ | apply Has.there)); done) (on_of rfl) (by first | omega | (simp only [Len] at *; omega) | (simp; omega)) rfl rfl))), ?_⟩; intro _ hM2; clear hM; have hM := hM2; clear hM2) | ((with_reducible refine gL_alloc hM ?_); refine ⟨_, _, (zr_of rfl), ?_⟩; intro _ _ hM2; clear hM; have hM := hM2; clear hM2) | ((with_reducible refine gL_box hM ?_); refine ⟨_, _, _, rfl, rfl, (by first | assumption | exact Len.map (by assumption) _ | rfl | exact Len.map (by rfl) _ | exact Len.of (by simp; done)), ?_⟩; intro _ _ hM2; clear hM; have hM := hM2; clear hM2) | ((with_reducible refine gL_build0 ?_); refine ⟨_, _, _, _, _, _, (zr_of rfl), (ua_of rfl), (ag_of rfl), (el_of rfl), ?_⟩) | ((with_reducible refine gL_buildBytes hM ?_); refine ⟨_, _, (us_of rfl), (el_of rfl), (by decide), (by decide), rfl, (by (repeat (first | exact EvB.nil | apply EvB.cons rfl (by first | exact (rfl : B8 _ = B8 _) | exact lit8 _ (by decide)))); done), ?_⟩; intro _ _ hM2; clear hM; have hM := hM2; clear hM2) | ((with_reducible refine gL_append_B hM ?_); refine ⟨_, _, _, _, _, _, _, _, _, _, rfl, rfl, (by first | exact (rfl : Value.slice (some ⟨_, 0, none⟩) _ _ = sl (some _) _ _) | exact (rfl : Value.slice none _ _ = sl none _ _) | rfl), (us_of rfl), (el_of rfl), (by first | exact hM.src (by (repeat (first | exact .head _ | apply List.Mem.tail)); done) | exact (hM.bytes0 (by assumption)).src), (fun _ _ => by (repeat (first | exact .here _ _ _ | apply Swap.there)); done), (by first | assumption | exact Len.map (by assumption) _ | rfl | exact Len.map (by rfl) _ | exact Len.of (by simp; done)), (by first | assumption | exact Len.map (by assumption) _ | rfl | exact Len.map (by rfl) _ | exact Len.of (by simp; done)), (by first | assumption | (simp [maxLen]; done) | omega | (simp [maxLen]; omega)), (by first | omega | (simp only [Len] at *; omega) | (simp; omega)), ?_⟩; intro _ _ _ hM2 _ _; clear hM; have hM := hM2; clear hM2) | ((first | (with_reducible refine gL_field ?_) | ((with_reducible refine gG_field ?_ ?_); (exact wanted_of rfl rfl rfl rfl rfl))); refine ⟨_, _, rfl, (by (first | (exact field_one (fb_of rfl) rfl) | (exact field_agg (fa_of rfl) rfl))), ?_⟩))
        have hM1 := hM.drop
        rw [hX1 ()] at hM1
        go_roundw
        case rel => exact ⟨j + 1, n + 1, ob1, cap1, by have := HN (); omega, by omega, rfl, hd2, hM1⟩
        case measure => simp only [slLen]; omega
      · have hne : n = 64 := by omega
        subst hne
        have hXK := hX (HN ()).symm
        obtain ⟨gp, hgp⟩ := hM.some_of (.head _) (hl3.map B8) (by omega)
        subst hgp
        clear hX hX1 HN
        rw [hXK ()] at hM
        go_wp2
        go_ret
        exact ⟨gp, cap, rfl, hcap, hM⟩
end Go.Proofs.Ytejmbkljnhnklaa
