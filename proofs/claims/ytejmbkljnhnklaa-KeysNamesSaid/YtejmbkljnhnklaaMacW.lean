/-
  The walks of mac's New.
-/
import Derived.Test.YtejmbkljnhnklaaShaE
import Derived.Test.YtejmbkljnhnklaaMacSpec
namespace Go.Proofs.Ytejmbkljnhnklaa
open Go.RowKit Go.PK

theorem index_B8 {t n e : Nat} (hu : Try.prog.underlying t = some (.array n e)) (he : (Try.prog.info? e).map (·.size) = some 1) (ho : oneB Try.prog e = true) {l : List UInt8} (hl : l.length = n) {i : Nat} (hi : i < n) :
    Indexed Try.prog t (.agg (l.map B8).toArray) (.int .i64 (i : Int)) (B8 (gb l i)) := by
  intro w
  cases hq : Try.prog.info? e with
  | none => simp [hq] at he
  | some j =>
    have hs : j.size = 1 := by simpa [hq] using he
    obtain ⟨d, hd, hd2, -⟩ := oneB_parts ho
    have hagg := run_isAgg (P := Try.prog) hd w
    rw [hd2] at hagg
    have h1 : (l.map B8)[i]? = some (B8 (gb l i)) := get_map 0 (by omega)
    simp [Instr.index, asIntOf, Sem.run_bind, run_underlying hu, sizeOf, typeInfo, hq, hs, part, hagg]
    rw [List.getElem?_map] at h1
    simp [h1]
    omega
theorem bu_mac (g : Nat) : Builds Try.prog 49 [(0, .pointer (some ⟨g, 0, none⟩))] (.agg (.pointer (some ⟨g, 0, none⟩) :: (List.replicate 64 (0 : UInt8)).map B8).toArray) := by
  intro w
  kernel_rfl
/-- the tag's object: its cells -/
def macC (g : Nat) (K : List UInt8) : List Value := .pointer (some ⟨g, 0, none⟩) :: K.map B8
theorem macC_len {g : Nat} {K : List UInt8} (h : K.length = 64) : Len (macC g K) 65 := Len.of (by simp [macC, h])
theorem macC_set {g : Nat} {K : List UInt8} (k : Nat) (x : UInt8) : (macC g K).set (1 + k) (B8 x) = macC g (K.set k x) := by
  rw [macC, Nat.add_comm, List.set_cons_succ, ← List.map_set]
  rfl
set_option maxRecDepth 100000 in
set_option maxHeartbeats 4000000 in
theorem mac_New (w0 : World) (v : Value) (key : List UInt8) (hv : Bytes w0 v key) (hlen : key.length ≤ 140737488355000) :
    Calls Try.prog 28 #[v] w0 fun e w' => ∃ gm gd C, e = .returned (.pointer (some ⟨gm, 0, none⟩)) ∧ Mem [] w0 w' [⟨some gm, 49, macC gd (Mac.over (Mac.block key) 0x5C), 65⟩, ⟨some gd, 118, C, 137⟩] ∧ DigAt C (Mac.over (Mac.block key) 0x36) := by
  have hM := Mem.start w0
  obtain ⟨K, hK⟩ : ∃ K, K = Mac.block key := ⟨_, rfl⟩
  obtain ⟨b, hb⟩ : ∃ b, b = Mac.base key := ⟨_, rfl⟩
  have hKl : K.length = 64 := by rw [hK]; exact Mac.block_len _
  have hbl : b.length ≤ 64 := by rw [hb]; exact Mac.base_len _
  have HKb : ∀ _ : Unit, K = b ++ List.replicate (64 - b.length) 0 := fun _ => by rw [hK, hb]; rfl
  have hb1 : key.length > 64 → Unit → b = Sha.of key := fun h _ => by rw [hb]; exact if_pos h
  have hb2 : ¬ key.length > 64 → Unit → b = key := fun h _ => by rw [hb]; exact if_neg h
  have hofb : key.length > 64 → ∀ w, Bytes w v key → Calls Try.prog 18 #[v] w fun e w' => e = .returned (.agg (b.map B8).toArray) ∧ Below w.heap.size w w' := fun h w hw => by
    rw [hb1 h ()]
    exact sha_Of w v key hw (by omega)
  rw [← hK]
  clear hK hb
  have hl36 : (Mac.over K 0x36).length = 64 := by rw [Mac.over_len]; exact hKl
  have hl5c : (Mac.over K 0x5C).length = 64 := by rw [Mac.over_len]; exact hKl
  have hg36 : ∀ i, i < 64 → Unit → gb (Mac.over K 0x36) i = gb K i ^^^ 54 := fun i hi _ => Mac.gb_over (by omega) _
  have hg5c : ∀ i, i < 64 → Unit → gb (Mac.over K 0x5C) i = gb K i ^^^ 92 := fun i hi _ => Mac.gb_over (by omega) _
  generalize Mac.over K 0x36 = I at *
  generalize Mac.over K 0x5C = O at *
  obtain ⟨ao, cap, rfl, e1, e2, e3, -⟩ := id hv
  have hcells : ((List.replicate 64 (0 : UInt8)).map B8).take 0 ++ (b.take 64).map B8 ++ ((List.replicate 64 (0 : UInt8)).map B8).drop (0 + (b.take 64).length) = K.map B8 := by
    rw [HKb (), List.take_of_length_le hbl, ← List.map_drop, List.drop_replicate, Nat.zero_add, List.take_zero, List.nil_append, List.map_append]
  have HC : ∀ _ : Unit, _ := fun _ => hcells
  clear hcells
  go_enter Try.func28, Try.ntmps28
  by_cases h64 : key.length > 64
  · have hbe := hb1 h64 ()
    have hb32 : Len b 32 := by rw [hbe]; exact Len.of (Sha.of_len _)
    have h64i : (64 : Int) < (key.length : Int) := by omega
    clear hbe hb1 hb2
    go_wp2_with (first | ((first | ((with_reducible refine gL_alloc (dst := some 3) hM ?_); refine ⟨_, _, (zr_of rfl), ?_⟩) | ((with_reducible refine gL_box (dst := some 3) hM ?_); refine ⟨_, _, _, rfl, rfl, (by first | assumption | exact Len.map (by assumption) _ | rfl | exact Len.map (by rfl) _ | exact Len.of (by simp; done)), ?_⟩)); intro g3 _ hM2; clear hM; have hM := hM2; clear hM2) | ((first | ((with_reducible refine gL_alloc (dst := some 4) hM ?_); refine ⟨_, _, (zr_of rfl), ?_⟩) | ((with_reducible refine gL_box (dst := some 4) hM ?_); refine ⟨_, _, _, rfl, rfl, (by first | assumption | exact Len.map (by assumption) _ | rfl | exact Len.map (by rfl) _ | exact Len.of (by simp; done)), ?_⟩)); intro g4 _ hM2; clear hM; have hM := hM2; clear hM2) | (go_at_call 18; have hvw := hM.bytes0 hv; (with_reducible refine (hofb h64 _ hvw).mono ?_); clear hvw; rintro _ _ ⟨rfl, B1⟩; replace hM := hM.adds B1; clear B1) |
      ((with_reducible refine gL_slice ?_); refine ⟨_, slice_arr_all (ua_of rfl) (by exact elOne rfl), ?_⟩) |
      ((with_reducible refine gL_copy_B hM ?_); refine ⟨_, _, _, _, _, _, (List.replicate 64 (0 : UInt8)).map B8, _, _, _, b, (us_of rfl), (by exact elOne rfl), rfl, rfl, hM.whole (ob := some g4) (.head _) hb32 (by decide), by simp, .there _ (.here _ _ _), ?_⟩; rw [HC ()]; intro _ hM2; clear hM; have hM := hM2; clear hM2) | go_skip | ((first | (with_reducible refine gL_load ?_) | ((with_reducible refine gG_load ?_ ?_); (exact wanted_of rfl rfl rfl rfl rfl))); refine ⟨_, _, rfl, (by (first | (assumption) | (exact hM.loads_B8 (by (repeat (first | exact .head _ | apply List.Mem.tail)); done) (on_of rfl) (by first | omega | (simp only [Len] at *; omega) | (simp; omega))) | (exact hM.loads_all (by (repeat (first | exact .head _ | apply List.Mem.tail)); done) (ag_of rfl) (by first | assumption | exact Len.map (by assumption) _ | rfl | exact Len.map (by rfl) _ | exact Len.of (by simp; done))) | (exact hM.loads_one (by (repeat (first | exact .head _ | apply List.Mem.tail)); done) (on_of rfl) rfl) | (exact hM.loads_W32 (by (repeat (first | exact .head _ | apply List.Mem.tail)); done) (on_of rfl) (by first | omega | (simp only [Len] at *; omega) | (simp; omega))) | (exact loads_cell (by assumption) (on_of rfl)))), ?_⟩) | ((with_reducible refine gL_store hM ?_); refine ⟨_, _, _, rfl, rfl, (by (first | (exact hM.stores_B8 (by first | exact (rfl : B8 _ = B8 _) | exact lit8 _ (by decide)) (by (repeat (first | exact .here _ _ _ | apply Has.there)); done) (on_of rfl) (by first | omega | (simp only [Len] at *; omega) | (simp; omega))) | (exact hM.stores_all (by (repeat (first | exact .here _ _ _ | apply Has.there)); done) (ag_of rfl) (by first | assumption | exact Len.map (by assumption) _ | rfl | exact Len.map (by rfl) _ | exact Len.of (by simp; done)) (by first | assumption | exact Len.map (by assumption) _ | rfl | exact Len.map (by rfl) _ | exact Len.of (by simp; done)) (by first | exact B8_one | exact W32_one | exact one_of_all rfl)) | (exact hM.stores_W32 rfl (by (repeat (first | exact .here _ _ _ | apply Has.there)); done) (on_of rfl) (by first | omega | (simp only [Len] at *; omega) | (simp; omega))) | (exact hM.stores_one (by (repeat (first | exact .here _ _ _ | apply Has.there)); done) (on_of rfl) (by first | omega | (simp only [Len] at *; omega) | (simp; omega)) rfl rfl))), ?_⟩; intro _ hM2; clear hM; have hM := hM2; clear hM2) | ((with_reducible refine gL_alloc hM ?_); refine ⟨_, _, (zr_of rfl), ?_⟩; intro _ _ hM2; clear hM; have hM := hM2; clear hM2) | ((with_reducible refine gL_box hM ?_); refine ⟨_, _, _, rfl, rfl, (by first | assumption | exact Len.map (by assumption) _ | rfl | exact Len.map (by rfl) _ | exact Len.of (by simp; done)), ?_⟩; intro _ _ hM2; clear hM; have hM := hM2; clear hM2) | ((with_reducible refine gL_build0 ?_); refine ⟨_, _, _, _, _, _, (zr_of rfl), (ua_of rfl), (ag_of rfl), (el_of rfl), ?_⟩) | ((with_reducible refine gL_buildBytes hM ?_); refine ⟨_, _, (us_of rfl), (el_of rfl), (by decide), (by decide), rfl, (by (repeat (first | exact EvB.nil | apply EvB.cons rfl (by first | exact (rfl : B8 _ = B8 _) | exact lit8 _ (by decide)))); done), ?_⟩; intro _ _ hM2; clear hM; have hM := hM2; clear hM2) | ((with_reducible refine gL_append_B hM ?_); refine ⟨_, _, _, _, _, _, _, _, _, _, rfl, rfl, (by first | exact (rfl : Value.slice (some ⟨_, 0, none⟩) _ _ = sl (some _) _ _) | exact (rfl : Value.slice none _ _ = sl none _ _) | rfl), (us_of rfl), (el_of rfl), (by first | exact hM.src (by (repeat (first | exact .head _ | apply List.Mem.tail)); done) | exact (hM.bytes0 (by assumption)).src), (fun _ _ => by (repeat (first | exact .here _ _ _ | apply Swap.there)); done), (by first | assumption | exact Len.map (by assumption) _ | rfl | exact Len.map (by rfl) _ | exact Len.of (by simp; done)), (by first | assumption | exact Len.map (by assumption) _ | rfl | exact Len.map (by rfl) _ | exact Len.of (by simp; done)), (by first | assumption | (simp [maxLen]; done) | omega | (simp [maxLen]; omega)), (by first | omega | (simp only [Len] at *; omega) | (simp; omega)), ?_⟩; intro _ _ _ hM2 _ _; clear hM; have hM := hM2; clear hM2) | ((first | (with_reducible refine gL_field ?_) | ((with_reducible refine gG_field ?_ ?_); (exact wanted_of rfl rfl rfl rfl rfl))); refine ⟨_, _, rfl, (by (first | (exact field_one (fb_of rfl) rfl) | (exact field_agg (fa_of rfl) rfl))), ?_⟩))
    refine (sha_New _).mono ?_
    rintro _ w1 ⟨gd, rfl, hM3⟩
    replace hM := (hM.addNew hM3.done (hM3.holds _ (.head _)) (hM3.mem_new (.head _)))
    clear hM3
    have hM0 : Mem [] w0 w1 [⟨some gd, 118, dig Sha.begins (List.replicate 64 0) 0, 137⟩, ⟨some g3, 47, K.map B8, 64⟩] := hM.sub (by repeat (first | exact List.nil_sublist _ | apply List.Sublist.cons_cons | apply List.Sublist.cons))
    clear hM
    have hM := hM0
    clear hM0
    obtain ⟨D0, hD0⟩ : ∃ D0, D0 = dig Sha.begins (List.replicate 64 0) 0 := ⟨_, rfl⟩
    rw [← hD0] at hM
    have HD0 : ∀ _ : Unit, D0 = dig Sha.begins (List.replicate 64 0) 0 := fun _ => hD0
    have hKL : Len (K.map B8) 64 := Len.of (by simp [hKl])
    clear hD0
    go_wp2_with (first | ((with_reducible refine gL_build ?_); refine ⟨_, _, rfl, bu_mac gd, ?_⟩) |
      ((with_reducible refine gL_box (dst := some 20) hM ?_); refine ⟨_, macC gd (List.replicate 64 0), 65, rfl, rfl, macC_len rfl, ?_⟩; intro gm _ hM2; clear hM; have hM := hM2; clear hM2) |
      ((first | ((with_reducible refine gL_alloc (dst := some 6) hM ?_); refine ⟨_, _, (zr_of rfl), ?_⟩) | ((with_reducible refine gL_box (dst := some 6) hM ?_); refine ⟨_, _, _, rfl, rfl, (by first | assumption | exact Len.map (by assumption) _ | rfl | exact Len.map (by rfl) _ | exact Len.of (by simp; done)), ?_⟩)); intro g6 _ hM2; clear hM; have hM := hM2; clear hM2) | ((with_reducible refine gL_load ?_); refine ⟨_, _, rfl, hM.loads_all (.tail _ (.tail _ (.tail _ (.head _)))) (ag_of rfl) hKL, ?_⟩) | go_skip | ((first | (with_reducible refine gL_load ?_) | ((with_reducible refine gG_load ?_ ?_); (exact wanted_of rfl rfl rfl rfl rfl))); refine ⟨_, _, rfl, (by (first | (assumption) | (exact hM.loads_B8 (by (repeat (first | exact .head _ | apply List.Mem.tail)); done) (on_of rfl) (by first | omega | (simp only [Len] at *; omega) | (simp; omega))) | (exact hM.loads_all (by (repeat (first | exact .head _ | apply List.Mem.tail)); done) (ag_of rfl) (by first | assumption | exact Len.map (by assumption) _ | rfl | exact Len.map (by rfl) _ | exact Len.of (by simp; done))) | (exact hM.loads_one (by (repeat (first | exact .head _ | apply List.Mem.tail)); done) (on_of rfl) rfl) | (exact hM.loads_W32 (by (repeat (first | exact .head _ | apply List.Mem.tail)); done) (on_of rfl) (by first | omega | (simp only [Len] at *; omega) | (simp; omega))) | (exact loads_cell (by assumption) (on_of rfl)))), ?_⟩) | ((with_reducible refine gL_store hM ?_); refine ⟨_, _, _, rfl, rfl, (by (first | (exact hM.stores_B8 (by first | exact (rfl : B8 _ = B8 _) | exact lit8 _ (by decide)) (by (repeat (first | exact .here _ _ _ | apply Has.there)); done) (on_of rfl) (by first | omega | (simp only [Len] at *; omega) | (simp; omega))) | (exact hM.stores_all (by (repeat (first | exact .here _ _ _ | apply Has.there)); done) (ag_of rfl) (by first | assumption | exact Len.map (by assumption) _ | rfl | exact Len.map (by rfl) _ | exact Len.of (by simp; done)) (by first | assumption | exact Len.map (by assumption) _ | rfl | exact Len.map (by rfl) _ | exact Len.of (by simp; done)) (by first | exact B8_one | exact W32_one | exact one_of_all rfl)) | (exact hM.stores_W32 rfl (by (repeat (first | exact .here _ _ _ | apply Has.there)); done) (on_of rfl) (by first | omega | (simp only [Len] at *; omega) | (simp; omega))) | (exact hM.stores_one (by (repeat (first | exact .here _ _ _ | apply Has.there)); done) (on_of rfl) (by first | omega | (simp only [Len] at *; omega) | (simp; omega)) rfl rfl))), ?_⟩; intro _ hM2; clear hM; have hM := hM2; clear hM2) | ((with_reducible refine gL_alloc hM ?_); refine ⟨_, _, (zr_of rfl), ?_⟩; intro _ _ hM2; clear hM; have hM := hM2; clear hM2) | ((with_reducible refine gL_box hM ?_); refine ⟨_, _, _, rfl, rfl, (by first | assumption | exact Len.map (by assumption) _ | rfl | exact Len.map (by rfl) _ | exact Len.of (by simp; done)), ?_⟩; intro _ _ hM2; clear hM; have hM := hM2; clear hM2) | ((with_reducible refine gL_build0 ?_); refine ⟨_, _, _, _, _, _, (zr_of rfl), (ua_of rfl), (ag_of rfl), (el_of rfl), ?_⟩) | ((with_reducible refine gL_buildBytes hM ?_); refine ⟨_, _, (us_of rfl), (el_of rfl), (by decide), (by decide), rfl, (by (repeat (first | exact EvB.nil | apply EvB.cons rfl (by first | exact (rfl : B8 _ = B8 _) | exact lit8 _ (by decide)))); done), ?_⟩; intro _ _ hM2; clear hM; have hM := hM2; clear hM2) | ((with_reducible refine gL_append_B hM ?_); refine ⟨_, _, _, _, _, _, _, _, _, _, rfl, rfl, (by first | exact (rfl : Value.slice (some ⟨_, 0, none⟩) _ _ = sl (some _) _ _) | exact (rfl : Value.slice none _ _ = sl none _ _) | rfl), (us_of rfl), (el_of rfl), (by first | exact hM.src (by (repeat (first | exact .head _ | apply List.Mem.tail)); done) | exact (hM.bytes0 (by assumption)).src), (fun _ _ => by (repeat (first | exact .here _ _ _ | apply Swap.there)); done), (by first | assumption | exact Len.map (by assumption) _ | rfl | exact Len.map (by rfl) _ | exact Len.of (by simp; done)), (by first | assumption | exact Len.map (by assumption) _ | rfl | exact Len.map (by rfl) _ | exact Len.of (by simp; done)), (by first | assumption | (simp [maxLen]; done) | omega | (simp [maxLen]; omega)), (by first | omega | (simp only [Len] at *; omega) | (simp; omega)), ?_⟩; intro _ _ _ hM2 _ _; clear hM; have hM := hM2; clear hM2) | ((first | (with_reducible refine gL_field ?_) | ((with_reducible refine gG_field ?_ ?_); (exact wanted_of rfl rfl rfl rfl rfl))); refine ⟨_, _, rfl, (by (first | (exact field_one (fb_of rfl) rfl) | (exact field_agg (fa_of rfl) rfl))), ?_⟩))
    replace hM := (show ∀ w, Mem [] w0 w [⟨some g6, 47, (List.replicate 64 (0 : UInt8)).map B8, 64⟩, ⟨some gm, 49, macC gd (List.replicate 64 0), 65⟩, ⟨some gd, 118, D0, 137⟩, ⟨some g3, 47, K.map B8, 64⟩] → Mem [] w0 w [⟨some g6, 47, (filling I 64 0).map B8, 64⟩, ⟨some gm, 49, macC gd (filling O 64 0), 65⟩, ⟨some gd, 118, D0, 137⟩, ⟨some g3, 47, K.map B8, 64⟩] from fun w h => by rw [filling_zero, filling_zero]; exact h) _ hM
    go_loopw [7, 8, 22] (fun _ _ i wr => ∃ k : Nat, k ≤ 64 ∧ i = .int .i64 k ∧ Mem [] w0 wr [⟨some g6, 47, (filling I 64 k).map B8, 64⟩, ⟨some gm, 49, macC gd (filling O 64 k), 65⟩, ⟨some gd, 118, D0, 137⟩, ⟨some g3, 47, K.map B8, 64⟩]) (fun _ _ i _ => 64 - (intOf i).toNat)
    case atStart => exact ⟨0, by omega, rfl, hM⟩
    case round =>
      clear hM
      obtain ⟨k, hk, rfl, hM⟩ := hrel
      have hlI := filling_len hl36 k hk
      have hlO := filling_len hl5c k hk
      by_cases hlt : k < 64
      · have hti : (k : Int) < 64 := by omega
        have hsI := filling_set hl36 hlt
        have hsO := filling_set hl5c hlt
        rw [hg36 k hlt ()] at hsI
        rw [hg5c k hlt ()] at hsO
        have HSI : ∀ _ : Unit, _ := fun _ => hsI
        have HSO : ∀ _ : Unit, _ := fun _ => hsO
        clear hsI hsO
        generalize filling I 64 k = FI at *
        generalize filling O 64 k = FO at *
        have c1 : wr.cell? ⟨g6, k, none⟩ = some (B8 (gb FI k)) := hM.cell (.head _) (get_map 0 (by omega))
        have f1 := hM.free (.head _) k
        have c2 : wr.cell? ⟨gm, 1 + k, none⟩ = some (B8 (gb FO k)) := hM.cell (.tail _ (.head _)) (by rw [macC, Nat.add_comm, List.getElem?_cons_succ]; exact get_map 0 (by omega))
        have f2 := hM.free (.tail _ (.head _)) (1 + k)
        have hne : g6 ≠ gm := by
          have := hM.nodup
          simp at this
          omega
        have hne2 : gm ≠ g6 := fun h => hne h.symm
        go_wp2_with (first | ((with_reducible refine gL_index ?_); refine ⟨_, _, _, rfl, rfl, index_B8 (ua_of rfl) (by exact elOne rfl) (on_of rfl) hKl hlt, ?_⟩))
        go_region
        all_goals go_wp2
        all_goals
          replace hM := hM.setB8 (off := k) (x := gb K k ^^^ 54) (.here _ _ _) (by omega)
          replace hM := hM.setCell (off := 1 + k) (C := macC gd FO) (v := B8 (gb K k ^^^ 92)) (.there _ (.here _ _ _)) (by rw [(macC_len hlO).eq]; omega)
          rw [macC_set, HSI (), HSO ()] at hM
          replace hM := hM.drew
          go_roundw
          case rel => exact ⟨k + 1, by omega, by go_num, hM⟩
          case measure => simp [intOf]; omega
      · have : k = 64 := by omega
        subst this
        rw [filling_all hl36, filling_all hl5c] at hM
        have hLI : Len I 64 := Len.of hl36
        have hne : g6 ≠ gd := by
          have := hM.nodup
          simp at this
          omega
        have hDl : Len D0 137 := by rw [HD0 ()]; rfl
        have hpt : Loads Try.prog wr 29 ⟨gm, 0, none⟩ (.pointer (some ⟨gd, 0, none⟩)) := hM.loads_one (.tail _ (.head _)) (on_of rfl) rfl
        go_wp2_with fail
        try simp only [Act.put, List.setIfInBounds_toArray, List.set_cons_succ, List.set_cons_zero]
        refine wp_region_tail 5 (by decide) (fun c vals => ⟨#[c 0, c 1, c 2, c 3, c 4, (Value.pointer (some ⟨gm, 0, none⟩) : Value), (Value.pointer (some ⟨g6, 0, none⟩) : Value), c 7, c 8, c 9, c 10, c 11, c 12, c 13, c 14, c 15, c 16, c 17, c 18, c 19, c 20, c 21, c 22, c 23, c 24, c 25, c 26, c 27, c 28, c 29, c 30, c 31, c 32, c 33, c 34, c 35, c 36, c 37, vals 0, vals 1, vals 2, vals 3, vals 4, c 43, c 44], []⟩) (fun t => [_, _, _, _, _, undef, undef, _, _, _, _, _, _, _, _, _, _, _, _, _, _, _, _, _, _, _, _, _, _, _, _, _, _, _, _, _, _, _, undef, undef, undef, undef, undef, _, _].getD t undef) (fun i => [_, _, _, _, _].getD i undef) (by kernel_rfl)
          [[], [0], [0, 1], [0, 1, 2], [], [0, 1, 2, 3, 4]] (by kernel_rfl) (by kernel_rfl) (fun _ => True) trivial
          [fun x _ => x = (Value.pointer (some ⟨gm, 0, none⟩) : Value),
           fun x _ => x = (Value.pointer (some ⟨gm, 0, none⟩) : Value),
           fun x _ => x = (Value.pointer (some ⟨gm, 0, none⟩) : Value),
           fun x _ => x = (Value.pointer (some ⟨gd, 0, none⟩) : Value),
           fun x _ => x = (Value.slice (some ⟨g6, 0, none⟩) 64 64 : Value)]
          ⟨fun _ _ _ h _ => h, fun _ _ _ h _ => h, fun _ _ _ h _ => h, fun _ _ _ h _ => h, fun _ _ _ h _ => h, trivial⟩ []
          ⟨?_, ?_, ?_, ?_, ?_, trivial⟩ ?_
        · refine showA_op 0 (by intro _ _ _; kernel_rfl) rfl rfl (fun c vals w hC hD => ?_)
          clear hD
          refine makes1 (x := .tmp 5) (X := Value.pointer (some ⟨gm, 0, none⟩)) (by kernel_rfl : _ = (Value.pointer (some ⟨gm, 0, none⟩) : Value)) (fun ρ rc rf q5 => ?_)
          exact makes_move (.inl rfl) q5 ⟨Adds.refl _, rfl⟩
        · refine showA_op 1 (by intro _ _ _; kernel_rfl) rfl rfl (fun c vals w hC hD => ?_)
          have h0 : vals 0 = .pointer (some ⟨gm, 0, none⟩) := hD 0 rfl
          clear hD
          refine makes1 (x := .tmp 38) (X := Value.pointer (some ⟨gm, 0, none⟩)) ((by kernel_rfl : _ = vals 0).trans h0) (fun ρ rc rf q38 => ?_)
          clear h0
          refine makes_value (v := Value.pointer (some ⟨gm, 0, none⟩)) ?_ ⟨Adds.refl _, rfl⟩
          go_simp
          all_goals first | done | rfl | (rw [if_pos (by omega)]; refine congrArg (fun x => Result.ok (Next.value (Value.pointer (some ⟨_, x, none⟩))) _) ?_; omega) | (rw [wrapP_i64]; omega) | go_num | (simp; done) | (simp; omega) | (congr 1; first | rfl | (rw [wrapP_i64]; omega) | (congr 1; first | rfl | (simp; done) | (simp; omega) | (congr 2; omega) | go_num))
        · refine showA_op 2 (by intro _ _ _; kernel_rfl) rfl rfl (fun c vals w hC hD => ?_)
          have h1 : vals 1 = .pointer (some ⟨gm, 0, none⟩) := hD 1 rfl
          clear hD
          refine makes1 (x := .tmp 39) (X := Value.pointer (some ⟨gm, 0, none⟩)) ((by kernel_rfl : _ = vals 1).trans h1) (fun ρ rc rf q39 => ?_)
          clear h1
          refine makes_value (v := Value.pointer (some ⟨gm, 0, none⟩)) ?_ ⟨Adds.refl _, rfl⟩
          go_simp
          all_goals first | done | rfl | (rw [if_pos (by omega)]; refine congrArg (fun x => Result.ok (Next.value (Value.pointer (some ⟨_, x, none⟩))) _) ?_; omega) | (rw [wrapP_i64]; omega) | go_num | (simp; done) | (simp; omega) | (congr 1; first | rfl | (rw [wrapP_i64]; omega) | (congr 1; first | rfl | (simp; done) | (simp; omega) | (congr 2; omega) | go_num))
        · refine showA_op 3 (by intro _ _ _; kernel_rfl) rfl rfl (fun c vals w hC hD => ?_)
          have h2 : vals 2 = .pointer (some ⟨gm, 0, none⟩) := hD 2 rfl
          clear hD
          refine makes1 (x := .tmp 40) (X := Value.pointer (some ⟨gm, 0, none⟩)) ((by kernel_rfl : _ = vals 2).trans h2) (fun ρ rc rf q40 => ?_)
          clear h2
          exact makes_load ((hM.adds hC).loads_one (.tail _ (.head _)) (on_of rfl) rfl) rfl q40 ⟨Adds.refl _, rfl⟩
        · refine showA_op 4 (by intro _ _ _; kernel_rfl) rfl rfl (fun c vals w hC hD => ?_)
          clear hD
          refine makes1 (x := .tmp 6) (X := Value.pointer (some ⟨g6, 0, none⟩)) (by kernel_rfl : _ = (Value.pointer (some ⟨g6, 0, none⟩) : Value)) (fun ρ rc rf q6 => ?_)
          exact makes_slice (slice_arr_all (t := 47) (ua_of rfl) (by exact elOne rfl)) rfl q6 rfl rfl rfl ⟨Adds.refl _, rfl⟩
        intro vals w' hC hΦ hne
        have h3 : vals 3 = .pointer (some ⟨gd, 0, none⟩) := hΦ 3 (by decide)
        have h4 : vals 4 = .slice (some ⟨g6, 0, none⟩) 64 64 := hΦ 4 (by decide)
        clear hΦ hne
        simp only [List.getD_eq_getElem?_getD, List.getElem?_cons_zero, List.getElem?_cons_succ, Option.getD_some, List.drop_succ_cons, List.drop_zero]
        simp only [h3, h4]
        clear h3 h4
        try simp only [tuple_undef]
        replace hM := hM.adds hC
        clear hC hpt
        go_wp2_with fail
        have hRw := hM.rowN (.tail _ (.tail _ (.head _))) hDl
        have hBs := hM.part' (.head _) (off := 0) (n := 64) (cap := 64) (by omega) (by omega) (by decide)
        rw [List.drop_zero, List.take_of_length_le (by omega)] at hBs
        refine (sha_Write _ gd D0 [] hRw (by rw [HD0 ()]; exact DigAt.start) _ I hBs (fun _ a n' cap' he => by cases he; exact hne) (by simp; omega)).mono ?_
        rintro _ w2 ⟨rfl, C', hT, hR2, hC2⟩
        rw [List.nil_append] at hC2
        replace hM := hM.calls (.there _ (.there _ (.here _ _ _))) hT hR2 hC2.len
        clear hT hR2 hRw hBs
        go_wp2_with fail
        go_ret
        exact ⟨gm, gd, C', rfl, hM.sub (by repeat (first | exact List.nil_sublist _ | apply List.Sublist.cons_cons | apply List.Sublist.cons)), hC2⟩
  · have hbe := hb2 h64 ()
    have h64i : ¬ (64 : Int) < (key.length : Int) := by omega
    have hvb : ∀ w, Bytes w (.slice ao key.length cap) key → Bytes w (.slice ao key.length cap) b := fun w h => by rw [hbe]; exact h
    clear hbe hb1 hb2
    go_wp2_with (first | ((first | ((with_reducible refine gL_alloc (dst := some 3) hM ?_); refine ⟨_, _, (zr_of rfl), ?_⟩) | ((with_reducible refine gL_box (dst := some 3) hM ?_); refine ⟨_, _, _, rfl, rfl, (by first | assumption | exact Len.map (by assumption) _ | rfl | exact Len.map (by rfl) _ | exact Len.of (by simp; done)), ?_⟩)); intro g3 _ hM2; clear hM; have hM := hM2; clear hM2) | ((with_reducible refine gL_slice ?_); refine ⟨_, slice_arr_all (ua_of rfl) (by exact elOne rfl), ?_⟩) |
      ((with_reducible refine gL_copy_B hM ?_); refine ⟨_, _, _, _, _, _, (List.replicate 64 (0 : UInt8)).map B8, _, _, _, b, (us_of rfl), (by exact elOne rfl), rfl, rfl, hvb _ (hM.bytes0 hv), by simp, .here _ _ _, ?_⟩; rw [HC ()]; intro _ hM2; clear hM; have hM := hM2; clear hM2) | go_skip | ((first | (with_reducible refine gL_load ?_) | ((with_reducible refine gG_load ?_ ?_); (exact wanted_of rfl rfl rfl rfl rfl))); refine ⟨_, _, rfl, (by (first | (assumption) | (exact hM.loads_B8 (by (repeat (first | exact .head _ | apply List.Mem.tail)); done) (on_of rfl) (by first | omega | (simp only [Len] at *; omega) | (simp; omega))) | (exact hM.loads_all (by (repeat (first | exact .head _ | apply List.Mem.tail)); done) (ag_of rfl) (by first | assumption | exact Len.map (by assumption) _ | rfl | exact Len.map (by rfl) _ | exact Len.of (by simp; done))) | (exact hM.loads_one (by (repeat (first | exact .head _ | apply List.Mem.tail)); done) (on_of rfl) rfl) | (exact hM.loads_W32 (by (repeat (first | exact .head _ | apply List.Mem.tail)); done) (on_of rfl) (by first | omega | (simp only [Len] at *; omega) | (simp; omega))) | (exact loads_cell (by assumption) (on_of rfl)))), ?_⟩) | ((with_reducible refine gL_store hM ?_); refine ⟨_, _, _, rfl, rfl, (by (first | (exact hM.stores_B8 (by first | exact (rfl : B8 _ = B8 _) | exact lit8 _ (by decide)) (by (repeat (first | exact .here _ _ _ | apply Has.there)); done) (on_of rfl) (by first | omega | (simp only [Len] at *; omega) | (simp; omega))) | (exact hM.stores_all (by (repeat (first | exact .here _ _ _ | apply Has.there)); done) (ag_of rfl) (by first | assumption | exact Len.map (by assumption) _ | rfl | exact Len.map (by rfl) _ | exact Len.of (by simp; done)) (by first | assumption | exact Len.map (by assumption) _ | rfl | exact Len.map (by rfl) _ | exact Len.of (by simp; done)) (by first | exact B8_one | exact W32_one | exact one_of_all rfl)) | (exact hM.stores_W32 rfl (by (repeat (first | exact .here _ _ _ | apply Has.there)); done) (on_of rfl) (by first | omega | (simp only [Len] at *; omega) | (simp; omega))) | (exact hM.stores_one (by (repeat (first | exact .here _ _ _ | apply Has.there)); done) (on_of rfl) (by first | omega | (simp only [Len] at *; omega) | (simp; omega)) rfl rfl))), ?_⟩; intro _ hM2; clear hM; have hM := hM2; clear hM2) | ((with_reducible refine gL_alloc hM ?_); refine ⟨_, _, (zr_of rfl), ?_⟩; intro _ _ hM2; clear hM; have hM := hM2; clear hM2) | ((with_reducible refine gL_box hM ?_); refine ⟨_, _, _, rfl, rfl, (by first | assumption | exact Len.map (by assumption) _ | rfl | exact Len.map (by rfl) _ | exact Len.of (by simp; done)), ?_⟩; intro _ _ hM2; clear hM; have hM := hM2; clear hM2) | ((with_reducible refine gL_build0 ?_); refine ⟨_, _, _, _, _, _, (zr_of rfl), (ua_of rfl), (ag_of rfl), (el_of rfl), ?_⟩) | ((with_reducible refine gL_buildBytes hM ?_); refine ⟨_, _, (us_of rfl), (el_of rfl), (by decide), (by decide), rfl, (by (repeat (first | exact EvB.nil | apply EvB.cons rfl (by first | exact (rfl : B8 _ = B8 _) | exact lit8 _ (by decide)))); done), ?_⟩; intro _ _ hM2; clear hM; have hM := hM2; clear hM2) | ((with_reducible refine gL_append_B hM ?_); refine ⟨_, _, _, _, _, _, _, _, _, _, rfl, rfl, (by first | exact (rfl : Value.slice (some ⟨_, 0, none⟩) _ _ = sl (some _) _ _) | exact (rfl : Value.slice none _ _ = sl none _ _) | rfl), (us_of rfl), (el_of rfl), (by first | exact hM.src (by (repeat (first | exact .head _ | apply List.Mem.tail)); done) | exact (hM.bytes0 (by assumption)).src), (fun _ _ => by (repeat (first | exact .here _ _ _ | apply Swap.there)); done), (by first | assumption | exact Len.map (by assumption) _ | rfl | exact Len.map (by rfl) _ | exact Len.of (by simp; done)), (by first | assumption | exact Len.map (by assumption) _ | rfl | exact Len.map (by rfl) _ | exact Len.of (by simp; done)), (by first | assumption | (simp [maxLen]; done) | omega | (simp [maxLen]; omega)), (by first | omega | (simp only [Len] at *; omega) | (simp; omega)), ?_⟩; intro _ _ _ hM2 _ _; clear hM; have hM := hM2; clear hM2) | ((first | (with_reducible refine gL_field ?_) | ((with_reducible refine gG_field ?_ ?_); (exact wanted_of rfl rfl rfl rfl rfl))); refine ⟨_, _, rfl, (by (first | (exact field_one (fb_of rfl) rfl) | (exact field_agg (fa_of rfl) rfl))), ?_⟩))
    refine (sha_New _).mono ?_
    rintro _ w1 ⟨gd, rfl, hM3⟩
    replace hM := (hM.addNew hM3.done (hM3.holds _ (.head _)) (hM3.mem_new (.head _)))
    clear hM3
    have hM0 : Mem [] w0 w1 [⟨some gd, 118, dig Sha.begins (List.replicate 64 0) 0, 137⟩, ⟨some g3, 47, K.map B8, 64⟩] := hM.sub (by repeat (first | exact List.nil_sublist _ | apply List.Sublist.cons_cons | apply List.Sublist.cons))
    clear hM
    have hM := hM0
    clear hM0
    obtain ⟨D0, hD0⟩ : ∃ D0, D0 = dig Sha.begins (List.replicate 64 0) 0 := ⟨_, rfl⟩
    rw [← hD0] at hM
    have HD0 : ∀ _ : Unit, D0 = dig Sha.begins (List.replicate 64 0) 0 := fun _ => hD0
    have hKL : Len (K.map B8) 64 := Len.of (by simp [hKl])
    clear hD0
    go_wp2_with (first | ((with_reducible refine gL_build ?_); refine ⟨_, _, rfl, bu_mac gd, ?_⟩) |
      ((with_reducible refine gL_box (dst := some 20) hM ?_); refine ⟨_, macC gd (List.replicate 64 0), 65, rfl, rfl, macC_len rfl, ?_⟩; intro gm _ hM2; clear hM; have hM := hM2; clear hM2) |
      ((first | ((with_reducible refine gL_alloc (dst := some 6) hM ?_); refine ⟨_, _, (zr_of rfl), ?_⟩) | ((with_reducible refine gL_box (dst := some 6) hM ?_); refine ⟨_, _, _, rfl, rfl, (by first | assumption | exact Len.map (by assumption) _ | rfl | exact Len.map (by rfl) _ | exact Len.of (by simp; done)), ?_⟩)); intro g6 _ hM2; clear hM; have hM := hM2; clear hM2) | ((with_reducible refine gL_load ?_); refine ⟨_, _, rfl, hM.loads_all (.tail _ (.tail _ (.tail _ (.head _)))) (ag_of rfl) hKL, ?_⟩) | go_skip | ((first | (with_reducible refine gL_load ?_) | ((with_reducible refine gG_load ?_ ?_); (exact wanted_of rfl rfl rfl rfl rfl))); refine ⟨_, _, rfl, (by (first | (assumption) | (exact hM.loads_B8 (by (repeat (first | exact .head _ | apply List.Mem.tail)); done) (on_of rfl) (by first | omega | (simp only [Len] at *; omega) | (simp; omega))) | (exact hM.loads_all (by (repeat (first | exact .head _ | apply List.Mem.tail)); done) (ag_of rfl) (by first | assumption | exact Len.map (by assumption) _ | rfl | exact Len.map (by rfl) _ | exact Len.of (by simp; done))) | (exact hM.loads_one (by (repeat (first | exact .head _ | apply List.Mem.tail)); done) (on_of rfl) rfl) | (exact hM.loads_W32 (by (repeat (first | exact .head _ | apply List.Mem.tail)); done) (on_of rfl) (by first | omega | (simp only [Len] at *; omega) | (simp; omega))) | (exact loads_cell (by assumption) (on_of rfl)))), ?_⟩) | ((with_reducible refine gL_store hM ?_); refine ⟨_, _, _, rfl, rfl, (by (first | (exact hM.stores_B8 (by first | exact (rfl : B8 _ = B8 _) | exact lit8 _ (by decide)) (by (repeat (first | exact .here _ _ _ | apply Has.there)); done) (on_of rfl) (by first | omega | (simp only [Len] at *; omega) | (simp; omega))) | (exact hM.stores_all (by (repeat (first | exact .here _ _ _ | apply Has.there)); done) (ag_of rfl) (by first | assumption | exact Len.map (by assumption) _ | rfl | exact Len.map (by rfl) _ | exact Len.of (by simp; done)) (by first | assumption | exact Len.map (by assumption) _ | rfl | exact Len.map (by rfl) _ | exact Len.of (by simp; done)) (by first | exact B8_one | exact W32_one | exact one_of_all rfl)) | (exact hM.stores_W32 rfl (by (repeat (first | exact .here _ _ _ | apply Has.there)); done) (on_of rfl) (by first | omega | (simp only [Len] at *; omega) | (simp; omega))) | (exact hM.stores_one (by (repeat (first | exact .here _ _ _ | apply Has.there)); done) (on_of rfl) (by first | omega | (simp only [Len] at *; omega) | (simp; omega)) rfl rfl))), ?_⟩; intro _ hM2; clear hM; have hM := hM2; clear hM2) | ((with_reducible refine gL_alloc hM ?_); refine ⟨_, _, (zr_of rfl), ?_⟩; intro _ _ hM2; clear hM; have hM := hM2; clear hM2) | ((with_reducible refine gL_box hM ?_); refine ⟨_, _, _, rfl, rfl, (by first | assumption | exact Len.map (by assumption) _ | rfl | exact Len.map (by rfl) _ | exact Len.of (by simp; done)), ?_⟩; intro _ _ hM2; clear hM; have hM := hM2; clear hM2) | ((with_reducible refine gL_build0 ?_); refine ⟨_, _, _, _, _, _, (zr_of rfl), (ua_of rfl), (ag_of rfl), (el_of rfl), ?_⟩) | ((with_reducible refine gL_buildBytes hM ?_); refine ⟨_, _, (us_of rfl), (el_of rfl), (by decide), (by decide), rfl, (by (repeat (first | exact EvB.nil | apply EvB.cons rfl (by first | exact (rfl : B8 _ = B8 _) | exact lit8 _ (by decide)))); done), ?_⟩; intro _ _ hM2; clear hM; have hM := hM2; clear hM2) | ((with_reducible refine gL_append_B hM ?_); refine ⟨_, _, _, _, _, _, _, _, _, _, rfl, rfl, (by first | exact (rfl : Value.slice (some ⟨_, 0, none⟩) _ _ = sl (some _) _ _) | exact (rfl : Value.slice none _ _ = sl none _ _) | rfl), (us_of rfl), (el_of rfl), (by first | exact hM.src (by (repeat (first | exact .head _ | apply List.Mem.tail)); done) | exact (hM.bytes0 (by assumption)).src), (fun _ _ => by (repeat (first | exact .here _ _ _ | apply Swap.there)); done), (by first | assumption | exact Len.map (by assumption) _ | rfl | exact Len.map (by rfl) _ | exact Len.of (by simp; done)), (by first | assumption | exact Len.map (by assumption) _ | rfl | exact Len.map (by rfl) _ | exact Len.of (by simp; done)), (by first | assumption | (simp [maxLen]; done) | omega | (simp [maxLen]; omega)), (by first | omega | (simp only [Len] at *; omega) | (simp; omega)), ?_⟩; intro _ _ _ hM2 _ _; clear hM; have hM := hM2; clear hM2) | ((first | (with_reducible refine gL_field ?_) | ((with_reducible refine gG_field ?_ ?_); (exact wanted_of rfl rfl rfl rfl rfl))); refine ⟨_, _, rfl, (by (first | (exact field_one (fb_of rfl) rfl) | (exact field_agg (fa_of rfl) rfl))), ?_⟩))
    replace hM := (show ∀ w, Mem [] w0 w [⟨some g6, 47, (List.replicate 64 (0 : UInt8)).map B8, 64⟩, ⟨some gm, 49, macC gd (List.replicate 64 0), 65⟩, ⟨some gd, 118, D0, 137⟩, ⟨some g3, 47, K.map B8, 64⟩] → Mem [] w0 w [⟨some g6, 47, (filling I 64 0).map B8, 64⟩, ⟨some gm, 49, macC gd (filling O 64 0), 65⟩, ⟨some gd, 118, D0, 137⟩, ⟨some g3, 47, K.map B8, 64⟩] from fun w h => by rw [filling_zero, filling_zero]; exact h) _ hM
    go_loopw [7, 8, 22] (fun _ _ i wr => ∃ k : Nat, k ≤ 64 ∧ i = .int .i64 k ∧ Mem [] w0 wr [⟨some g6, 47, (filling I 64 k).map B8, 64⟩, ⟨some gm, 49, macC gd (filling O 64 k), 65⟩, ⟨some gd, 118, D0, 137⟩, ⟨some g3, 47, K.map B8, 64⟩]) (fun _ _ i _ => 64 - (intOf i).toNat)
    case atStart => exact ⟨0, by omega, rfl, hM⟩
    case round =>
      clear hM
      obtain ⟨k, hk, rfl, hM⟩ := hrel
      have hlI := filling_len hl36 k hk
      have hlO := filling_len hl5c k hk
      by_cases hlt : k < 64
      · have hti : (k : Int) < 64 := by omega
        have hsI := filling_set hl36 hlt
        have hsO := filling_set hl5c hlt
        rw [hg36 k hlt ()] at hsI
        rw [hg5c k hlt ()] at hsO
        have HSI : ∀ _ : Unit, _ := fun _ => hsI
        have HSO : ∀ _ : Unit, _ := fun _ => hsO
        clear hsI hsO
        generalize filling I 64 k = FI at *
        generalize filling O 64 k = FO at *
        have c1 : wr.cell? ⟨g6, k, none⟩ = some (B8 (gb FI k)) := hM.cell (.head _) (get_map 0 (by omega))
        have f1 := hM.free (.head _) k
        have c2 : wr.cell? ⟨gm, 1 + k, none⟩ = some (B8 (gb FO k)) := hM.cell (.tail _ (.head _)) (by rw [macC, Nat.add_comm, List.getElem?_cons_succ]; exact get_map 0 (by omega))
        have f2 := hM.free (.tail _ (.head _)) (1 + k)
        have hne : g6 ≠ gm := by
          have := hM.nodup
          simp at this
          omega
        have hne2 : gm ≠ g6 := fun h => hne h.symm
        go_wp2_with (first | ((with_reducible refine gL_index ?_); refine ⟨_, _, _, rfl, rfl, index_B8 (ua_of rfl) (by exact elOne rfl) (on_of rfl) hKl hlt, ?_⟩))
        go_region
        all_goals go_wp2
        all_goals
          replace hM := hM.setB8 (off := k) (x := gb K k ^^^ 54) (.here _ _ _) (by omega)
          replace hM := hM.setCell (off := 1 + k) (C := macC gd FO) (v := B8 (gb K k ^^^ 92)) (.there _ (.here _ _ _)) (by rw [(macC_len hlO).eq]; omega)
          rw [macC_set, HSI (), HSO ()] at hM
          replace hM := hM.drew
          go_roundw
          case rel => exact ⟨k + 1, by omega, by go_num, hM⟩
          case measure => simp [intOf]; omega
      · have : k = 64 := by omega
        subst this
        rw [filling_all hl36, filling_all hl5c] at hM
        have hLI : Len I 64 := Len.of hl36
        have hne : g6 ≠ gd := by
          have := hM.nodup
          simp at this
          omega
        have hDl : Len D0 137 := by rw [HD0 ()]; rfl
        have hpt : Loads Try.prog wr 29 ⟨gm, 0, none⟩ (.pointer (some ⟨gd, 0, none⟩)) := hM.loads_one (.tail _ (.head _)) (on_of rfl) rfl
        go_wp2_with fail
        try simp only [Act.put, List.setIfInBounds_toArray, List.set_cons_succ, List.set_cons_zero]
        refine wp_region_tail 5 (by decide) (fun c vals => ⟨#[c 0, c 1, c 2, c 3, c 4, (Value.pointer (some ⟨gm, 0, none⟩) : Value), (Value.pointer (some ⟨g6, 0, none⟩) : Value), c 7, c 8, c 9, c 10, c 11, c 12, c 13, c 14, c 15, c 16, c 17, c 18, c 19, c 20, c 21, c 22, c 23, c 24, c 25, c 26, c 27, c 28, c 29, c 30, c 31, c 32, c 33, c 34, c 35, c 36, c 37, vals 0, vals 1, vals 2, vals 3, vals 4, c 43, c 44], []⟩) (fun t => [_, _, _, _, _, undef, undef, _, _, _, _, _, _, _, _, _, _, _, _, _, _, _, _, _, _, _, _, _, _, _, _, _, _, _, _, _, _, _, undef, undef, undef, undef, undef, _, _].getD t undef) (fun i => [_, _, _, _, _].getD i undef) (by kernel_rfl)
          [[], [0], [0, 1], [0, 1, 2], [], [0, 1, 2, 3, 4]] (by kernel_rfl) (by kernel_rfl) (fun _ => True) trivial
          [fun x _ => x = (Value.pointer (some ⟨gm, 0, none⟩) : Value),
           fun x _ => x = (Value.pointer (some ⟨gm, 0, none⟩) : Value),
           fun x _ => x = (Value.pointer (some ⟨gm, 0, none⟩) : Value),
           fun x _ => x = (Value.pointer (some ⟨gd, 0, none⟩) : Value),
           fun x _ => x = (Value.slice (some ⟨g6, 0, none⟩) 64 64 : Value)]
          ⟨fun _ _ _ h _ => h, fun _ _ _ h _ => h, fun _ _ _ h _ => h, fun _ _ _ h _ => h, fun _ _ _ h _ => h, trivial⟩ []
          ⟨?_, ?_, ?_, ?_, ?_, trivial⟩ ?_
        · refine showA_op 0 (by intro _ _ _; kernel_rfl) rfl rfl (fun c vals w hC hD => ?_)
          clear hD
          refine makes1 (x := .tmp 5) (X := Value.pointer (some ⟨gm, 0, none⟩)) (by kernel_rfl : _ = (Value.pointer (some ⟨gm, 0, none⟩) : Value)) (fun ρ rc rf q5 => ?_)
          exact makes_move (.inl rfl) q5 ⟨Adds.refl _, rfl⟩
        · refine showA_op 1 (by intro _ _ _; kernel_rfl) rfl rfl (fun c vals w hC hD => ?_)
          have h0 : vals 0 = .pointer (some ⟨gm, 0, none⟩) := hD 0 rfl
          clear hD
          refine makes1 (x := .tmp 38) (X := Value.pointer (some ⟨gm, 0, none⟩)) ((by kernel_rfl : _ = vals 0).trans h0) (fun ρ rc rf q38 => ?_)
          clear h0
          refine makes_value (v := Value.pointer (some ⟨gm, 0, none⟩)) ?_ ⟨Adds.refl _, rfl⟩
          go_simp
          all_goals first | done | rfl | (rw [if_pos (by omega)]; refine congrArg (fun x => Result.ok (Next.value (Value.pointer (some ⟨_, x, none⟩))) _) ?_; omega) | (rw [wrapP_i64]; omega) | go_num | (simp; done) | (simp; omega) | (congr 1; first | rfl | (rw [wrapP_i64]; omega) | (congr 1; first | rfl | (simp; done) | (simp; omega) | (congr 2; omega) | go_num))
        · refine showA_op 2 (by intro _ _ _; kernel_rfl) rfl rfl (fun c vals w hC hD => ?_)
          have h1 : vals 1 = .pointer (some ⟨gm, 0, none⟩) := hD 1 rfl
          clear hD
          refine makes1 (x := .tmp 39) (X := Value.pointer (some ⟨gm, 0, none⟩)) ((by kernel_rfl : _ = vals 1).trans h1) (fun ρ rc rf q39 => ?_)
          clear h1
          refine makes_value (v := Value.pointer (some ⟨gm, 0, none⟩)) ?_ ⟨Adds.refl _, rfl⟩
          go_simp
          all_goals first | done | rfl | (rw [if_pos (by omega)]; refine congrArg (fun x => Result.ok (Next.value (Value.pointer (some ⟨_, x, none⟩))) _) ?_; omega) | (rw [wrapP_i64]; omega) | go_num | (simp; done) | (simp; omega) | (congr 1; first | rfl | (rw [wrapP_i64]; omega) | (congr 1; first | rfl | (simp; done) | (simp; omega) | (congr 2; omega) | go_num))
        · refine showA_op 3 (by intro _ _ _; kernel_rfl) rfl rfl (fun c vals w hC hD => ?_)
          have h2 : vals 2 = .pointer (some ⟨gm, 0, none⟩) := hD 2 rfl
          clear hD
          refine makes1 (x := .tmp 40) (X := Value.pointer (some ⟨gm, 0, none⟩)) ((by kernel_rfl : _ = vals 2).trans h2) (fun ρ rc rf q40 => ?_)
          clear h2
          exact makes_load ((hM.adds hC).loads_one (.tail _ (.head _)) (on_of rfl) rfl) rfl q40 ⟨Adds.refl _, rfl⟩
        · refine showA_op 4 (by intro _ _ _; kernel_rfl) rfl rfl (fun c vals w hC hD => ?_)
          clear hD
          refine makes1 (x := .tmp 6) (X := Value.pointer (some ⟨g6, 0, none⟩)) (by kernel_rfl : _ = (Value.pointer (some ⟨g6, 0, none⟩) : Value)) (fun ρ rc rf q6 => ?_)
          exact makes_slice (slice_arr_all (t := 47) (ua_of rfl) (by exact elOne rfl)) rfl q6 rfl rfl rfl ⟨Adds.refl _, rfl⟩
        intro vals w' hC hΦ hne
        have h3 : vals 3 = .pointer (some ⟨gd, 0, none⟩) := hΦ 3 (by decide)
        have h4 : vals 4 = .slice (some ⟨g6, 0, none⟩) 64 64 := hΦ 4 (by decide)
        clear hΦ hne
        simp only [List.getD_eq_getElem?_getD, List.getElem?_cons_zero, List.getElem?_cons_succ, Option.getD_some, List.drop_succ_cons, List.drop_zero]
        simp only [h3, h4]
        clear h3 h4
        try simp only [tuple_undef]
        replace hM := hM.adds hC
        clear hC hpt
        go_wp2_with fail
        have hRw := hM.rowN (.tail _ (.tail _ (.head _))) hDl
        have hBs := hM.part' (.head _) (off := 0) (n := 64) (cap := 64) (by omega) (by omega) (by decide)
        rw [List.drop_zero, List.take_of_length_le (by omega)] at hBs
        refine (sha_Write _ gd D0 [] hRw (by rw [HD0 ()]; exact DigAt.start) _ I hBs (fun _ a n' cap' he => by cases he; exact hne) (by simp; omega)).mono ?_
        rintro _ w2 ⟨rfl, C', hT, hR2, hC2⟩
        rw [List.nil_append] at hC2
        replace hM := hM.calls (.there _ (.there _ (.here _ _ _))) hT hR2 hC2.len
        clear hT hR2 hRw hBs
        go_wp2_with fail
        go_ret
        exact ⟨gm, gd, C', rfl, hM.sub (by repeat (first | exact List.nil_sublist _ | apply List.Sublist.cons_cons | apply List.Sublist.cons)), hC2⟩
end Go.Proofs.Ytejmbkljnhnklaa
