/-
  The walk of told: an error as the document has it, by errors.As at its two targets.
-/
import Derived.Test.YtejmbkljnhnklaaDoorImgB
import Derived.Test.YtejmbkljnhnklaaDoorLaid
namespace Go.Proofs.YtejmbkljnhnklaaDoor
open Go.RowKit Go.PK
theorem TypeLaid.mem {w0 w : World} {L : List Blk} (h : TypeLaid w0) (hM : Mem [] w0 w L) : TypeLaid w := by
  unfold TypeLaid at *
  rw [cell_below hM.done (by exact TypeLaid.lt h)]
  exact h
theorem adds4 (w : World) (a b c d : Obj) : Below w.heap.size w ((((w.alloc a).alloc b).alloc c).alloc d) :=
  (((((Below.refl w.heap.size w).alloc (Nat.le_refl _) a).alloc (by simp) b).alloc (by simp; omega) c).alloc (by simp; omega) d)
/-- errors.As, the error being the target's own type -/
theorem as_w_m {w0 w : World} {L : List Blk} (hg : TypeLaid w0) (e : Addr) (t : Nat) (old : Value) (hM : Mem [] w0 w (⟨some t, 52, [old], 1⟩ :: L)) :
    Calls Tryd.prog 32 #[.iface 52 (.pointer (some e)), .iface 57 (.pointer (some ⟨t, 0, none⟩))] w fun ev w' => ev = .returned (.bool true) ∧ Mem [] w0 w' (⟨some t, 52, [.pointer (some e)], 1⟩ :: L) := by
  refine (as_w e ⟨t, 0, none⟩ old w (hg.mem hM) (hM.cell (.head _) rfl) (hM.free (.head _) 0)).mono ?_
  rintro ev w' ⟨rfl, rfl⟩
  exact ⟨rfl, (hM.adds (adds4 _ _ _ _ _)).setCell (off := 0) (.here _ _ _) (by simp)⟩
/-- errors.As, the error wrapping a number, the target a number's variable -/
theorem as_n_m {w0 w : World} {L : List Blk} (hg : TypeLaid w0) (e : Addr) (n : Int) (t : Nat) (old : Value) (hM : Mem [] w0 w (⟨some t, 28, [old], 1⟩ :: L)) (he : w.cell? e = some (.int .i64 n)) :
    Calls Tryd.prog 32 #[.iface 52 (.pointer (some e)), .iface 58 (.pointer (some ⟨t, 0, none⟩))] w fun ev w' => ev = .returned (.bool true) ∧ Mem [] w0 w' (⟨some t, 28, [.int .i64 n], 1⟩ :: L) := by
  refine (as_n e n ⟨t, 0, none⟩ old w (hg.mem hM) (hM.cell (.head _) rfl) (hM.free (.head _) 0) he).mono ?_
  rintro ev w' ⟨rfl, rfl⟩
  exact ⟨rfl, (hM.adds (adds4 _ _ _ _ _)).setCell (off := 0) (.here _ _ _) (by simp)⟩

set_option maxRecDepth 100000 in
theorem told_nil (w0 : World) : Calls Tryd.prog 15 #[.nilIface] w0 fun e w' => e = .returned (.tuple #[.agg (wrongC 0 0).toArray, .bool true]) ∧ Below w0.heap.size w0 w' := by
  have hM := Mem.start w0
  have hzw : Zr Tryd.prog 39 (wrongC 0 0) 2 := (zr_of rfl)
  go_enter Tryd.func15, Tryd.ntmps15
  go_wp2_with (first
    | ((with_reducible refine gL_alloc (dst := some 2) hM ?_); refine ⟨_, _, hzw, ?_⟩; intro gr _ hM2; clear hM; have hM := hM2; clear hM2)
    | go_skip | ((first | (with_reducible refine gL_load ?_) | ((with_reducible refine gG_load ?_ ?_); (exact wanted_of rfl rfl rfl rfl rfl))); refine ⟨_, _, rfl, (by (first | (assumption) | (exact hM.loads_B8 (by (repeat (first | exact .head _ | apply List.Mem.tail)); done) (on_of rfl) (by first | omega | (simp only [Len] at *; omega) | (simp; omega))) | (exact hM.loads_all (by (repeat (first | exact .head _ | apply List.Mem.tail)); done) (ag_of rfl) (by first | assumption | exact Len.map (by assumption) _ | rfl | exact Len.map (by rfl) _ | exact Len.of (by simp; done))) | (exact hM.loads_one (by (repeat (first | exact .head _ | apply List.Mem.tail)); done) (on_of rfl) rfl) | (exact hM.loads_W32 (by (repeat (first | exact .head _ | apply List.Mem.tail)); done) (on_of rfl) (by first | omega | (simp only [Len] at *; omega) | (simp; omega))) | (exact loads_cell (by assumption) (on_of rfl)))), ?_⟩) | ((with_reducible refine gL_store hM ?_); refine ⟨_, _, _, rfl, rfl, (by (first | (exact hM.stores_B8 (by first | exact (rfl : B8 _ = B8 _) | exact lit8 _ (by decide)) (by (repeat (first | exact .here _ _ _ | apply Has.there)); done) (on_of rfl) (by first | omega | (simp only [Len] at *; omega) | (simp; omega))) | (exact hM.stores_all (by (repeat (first | exact .here _ _ _ | apply Has.there)); done) (ag_of rfl) (by first | assumption | exact Len.map (by assumption) _ | rfl | exact Len.map (by rfl) _ | exact Len.of (by simp; done)) (by first | assumption | exact Len.map (by assumption) _ | rfl | exact Len.map (by rfl) _ | exact Len.of (by simp; done)) (by first | exact B8_one | exact W32_one | exact one_of_all rfl)) | (exact hM.stores_W32 rfl (by (repeat (first | exact .here _ _ _ | apply Has.there)); done) (on_of rfl) (by first | omega | (simp only [Len] at *; omega) | (simp; omega))) | (exact hM.stores_one (by (repeat (first | exact .here _ _ _ | apply Has.there)); done) (on_of rfl) (by first | omega | (simp only [Len] at *; omega) | (simp; omega)) rfl rfl))), ?_⟩; intro _ hM2; clear hM; have hM := hM2; clear hM2) | ((with_reducible refine gL_alloc hM ?_); refine ⟨_, _, (zr_of rfl), ?_⟩; intro _ _ hM2; clear hM; have hM := hM2; clear hM2) | ((with_reducible refine gL_box hM ?_); refine ⟨_, _, _, rfl, rfl, (by first | assumption | exact Len.map (by assumption) _ | rfl | exact Len.map (by rfl) _ | exact Len.of (by simp; done)), ?_⟩; intro _ _ hM2; clear hM; have hM := hM2; clear hM2) | ((with_reducible refine gL_build0 ?_); refine ⟨_, _, _, _, _, _, (zr_of rfl), (ua_of rfl), (ag_of rfl), (el_of rfl), ?_⟩) | ((with_reducible refine gL_buildBytes hM ?_); refine ⟨_, _, (us_of rfl), (el_of rfl), (by decide), (by decide), rfl, (by (repeat (first | exact EvB.nil | apply EvB.cons rfl (by first | exact (rfl : B8 _ = B8 _) | exact lit8 _ (by decide)))); done), ?_⟩; intro _ _ hM2; clear hM; have hM := hM2; clear hM2) | ((with_reducible refine gL_append_B hM ?_); refine ⟨_, _, _, _, _, _, _, _, _, _, rfl, rfl, (by first | exact (rfl : Value.slice (some ⟨_, 0, none⟩) _ _ = sl (some _) _ _) | exact (rfl : Value.slice none _ _ = sl none _ _) | rfl), (us_of rfl), (el_of rfl), (by first | exact hM.src (by (repeat (first | exact .head _ | apply List.Mem.tail)); done) | exact (hM.bytes0 (by assumption)).src), (fun _ _ => by (repeat (first | exact .here _ _ _ | apply Swap.there)); done), (by first | assumption | exact Len.map (by assumption) _ | rfl | exact Len.map (by rfl) _ | exact Len.of (by simp; done)), (by first | assumption | exact Len.map (by assumption) _ | rfl | exact Len.map (by rfl) _ | exact Len.of (by simp; done)), (by first | assumption | (simp [maxLen]; done) | omega | (simp [maxLen]; omega)), (by first | omega | (simp only [Len] at *; omega) | (simp; omega)), ?_⟩; intro _ _ _ hM2 _ _; clear hM; have hM := hM2; clear hM2) | ((first | (with_reducible refine gL_field ?_) | ((with_reducible refine gG_field ?_ ?_); (exact wanted_of rfl rfl rfl rfl rfl))); refine ⟨_, _, rfl, (by (first | (exact field_one (fb_of rfl) rfl) | (exact field_agg (fa_of rfl) rfl))), ?_⟩))
  have hM3 : Mem [] w0 _ (⟨some gr, 39, wrongC 0 0, 2⟩ :: []) := hM
  exact hM3.ret_cell_tmp rfl rfl rfl rfl (.head _) (ag_of rfl) rfl ⟨rfl, hM3.done⟩

set_option maxRecDepth 100000 in
set_option maxHeartbeats 4000000 in
theorem told_err (w0 : World) (hg : TypeLaid w0) (g ec ek : Nat) (hR : Row w0 g 53 (wrongC ec ek)) (hc : ¬ ec = 0) :
    Calls Tryd.prog 15 #[.iface 52 (.pointer (some ⟨g, 0, none⟩))] w0 fun e w' => e = .returned (.tuple #[.agg (wrongC ec ek).toArray, .bool true]) ∧ Below w0.heap.size w0 w' := by
  have hM := Mem.start w0
  have hzw : Zr Tryd.prog 39 (wrongC 0 0) 2 := (zr_of rfl)
  have hci : ¬ (ec : Int) = 0 := by omega
  have hb0 : ∀ (w : World) (n m : Int), (Instr.build 39 #[(0, .int .i64 n), (1, .int .i64 m)]).run Tryd.prog w = .ok (.agg #[.int .i64 n, .int .i64 m]) w := fun w n m => by kernel_rfl
  have hrow : ∀ {w : World} {L : List Blk}, Mem [] w0 w L → w.cell? ⟨g, 0, none⟩ = some (.int .i64 (ec : Int)) ∧ w.cell? ⟨g, 1, none⟩ = some (.int .i64 (ek : Int)) := fun hM => by
    have h := hM.row hR (by simp)
    exact ⟨by rw [cell_row h]; rfl, by rw [cell_row h]; rfl⟩
  go_enter Tryd.func15, Tryd.ntmps15
  go_wp2_with (first
    | ((with_reducible refine gL_alloc (dst := some 2) hM ?_); refine ⟨_, _, hzw, ?_⟩; intro gr _ hM2; clear hM; have hM := hM2; clear hM2)
    | ((with_reducible refine gL_alloc (dst := some 4) hM ?_); refine ⟨_, _, (zr_of rfl), ?_⟩; intro gp _ hM2; clear hM; have hM := hM2; clear hM2)
    | ((with_reducible refine gL_alloc (dst := some 5) hM ?_); refine ⟨_, _, (zr_of rfl), ?_⟩; intro gn wA hM2; clear hM; have hM := hM2; clear hM2))
  have hMp : Mem [] w0 wA.drew (⟨some gp, 52, [.pointer none], 1⟩ :: ⟨some gn, 28, [.int .i64 0], 1⟩ :: ⟨some gr, 39, wrongC 0 0, 2⟩ :: []) := hM.drew.perm (.swap _ _ _)
  have h1 := as_w_m hg ⟨g, 0, none⟩ gp (.pointer none) hMp
  clear hM
  go_region_with (first
    | (go_at_call 32; (with_reducible refine h1.mono ?_); rintro _ w1 ⟨rfl, hM1⟩; clear h1; have c4 : w1.cell? ⟨gp, 0, none⟩ = some (.pointer (some ⟨g, 0, none⟩)) := hM1.cell (.head _) rfl; have hMq := hM1.perm (.swap _ _ _); have hw := hrow hM1; have hn := as_n_m hg ⟨g, 0, none⟩ (ec : Int) gn (.int .i64 0) hMq hw.1; clear hM1 hMp)
    | (go_at_call 32; (with_reducible refine hn.mono ?_); rintro _ w2 ⟨rfl, hM⟩; clear hn hMq c4 hw; have c5 : w2.cell? ⟨gn, 0, none⟩ = some (.int .i64 (ec : Int)) := hM.cell (.head _) rfl; have c4 : w2.cell? ⟨gp, 0, none⟩ = some (.pointer (some ⟨g, 0, none⟩)) := hM.cell (.tail _ (.head _)) rfl; have hw3 := (hrow hM).1; have hw4 := (hrow hM).2))
  all_goals
    have hc4 : ∀ w', Adds w2 w' → w'.cell? ⟨gp, 0, none⟩ = some (.pointer (some ⟨g, 0, none⟩)) := fun w' hb => (hM.adds hb).cell (.tail _ (.head _)) rfl
    clear c5 c4 hw3 hw4
    go_wp2_with fail
    try simp only [Act.put, List.setIfInBounds_toArray]
    refine wp_region_tail 9 (by decide) (fun c vals => ⟨#[c 0, c 1, c 2, c 3, (Value.pointer (some ⟨gp, 0, none⟩) : Value), c 5, c 6, c 7, c 8, c 9, c 10, c 11, c 12, c 13, c 14, c 15, c 16, c 17, c 18, c 19, c 20, c 21, c 22, c 23, c 24, c 25, c 26, c 27, c 28, c 29, c 30, c 31, c 32, c 33, c 34, c 35, c 36, c 37, c 38, vals 0, vals 1, vals 2, vals 3, vals 4, vals 5, vals 6, vals 7, vals 8], []⟩) (fun t => [_, _, _, _, undef, _, _, _, _, _, _, _, _, _, _, _, _, _, _, _, _, _, _, _, _, _, _, _, _, _, _, _, _, _, _, _, _, _, _, undef, undef, undef, undef, undef, undef, undef, undef, undef].getD t undef) (fun i => [_, _, _, _, _, _, _, _, _].getD i undef) (by kernel_rfl)
      [[], [0], [0, 1], [0, 1, 2], [], [4], [4, 5], [4, 5, 6], [0, 1, 2, 3, 4, 5, 6, 7], [0, 1, 2, 3, 4, 5, 6, 7, 8], [0, 1, 2, 3, 4, 5, 6, 7, 8, 9]] (by kernel_rfl) (by kernel_rfl) (fun _ => True) trivial
      [fun x _ => x = (Value.pointer (some ⟨g, 0, none⟩) : Value),
       fun x _ => x = (Value.pointer (some ⟨g, 0, none⟩) : Value),
       fun x _ => x = (Value.pointer (some ⟨g, 0, none⟩) : Value),
       fun x _ => x = (Value.int .i64 (ec : Int) : Value),
       fun x _ => x = (Value.pointer (some ⟨g, 0, none⟩) : Value),
       fun x _ => x = (Value.pointer (some ⟨g, 0, none⟩) : Value),
       fun x _ => x = (Value.pointer (some ⟨g, 1, none⟩) : Value),
       fun x _ => x = (Value.int .i64 (ek : Int) : Value),
       fun x _ => x = (Value.agg #[Value.int .i64 (ec : Int), Value.int .i64 (ek : Int)] : Value)]
      ⟨fun _ _ _ h _ => h, fun _ _ _ h _ => h, fun _ _ _ h _ => h, fun _ _ _ h _ => h, fun _ _ _ h _ => h, fun _ _ _ h _ => h, fun _ _ _ h _ => h, fun _ _ _ h _ => h, fun _ _ _ h _ => h, trivial⟩ []
      ⟨?_, ?_, ?_, ?_, ?_, ?_, ?_, ?_, ?_, trivial⟩ ?_
    · refine showA_op 0 (by intro _ _ _; kernel_rfl) rfl rfl (fun c vals w hC hD => ?_)
      clear hD
      refine makes1 (x := .tmp 4) (X := Value.pointer (some ⟨gp, 0, none⟩)) (by kernel_rfl : _ = (Value.pointer (some ⟨gp, 0, none⟩) : Value)) (fun ρ rc rf q4 => ?_)
      exact makes_load (loads_cell (hc4 _ hC) (on_of rfl)) rfl q4 ⟨Adds.refl _, rfl⟩
    · refine showA_op 1 (by intro _ _ _; kernel_rfl) rfl rfl (fun c vals w hC hD => ?_)
      have h0 : vals 0 = .pointer (some ⟨g, 0, none⟩) := hD 0 rfl
      clear hD
      refine makes1 (x := .tmp 39) (X := Value.pointer (some ⟨g, 0, none⟩)) ((by kernel_rfl : _ = vals 0).trans h0) (fun ρ rc rf q39 => ?_)
      clear h0
      (refine makes_value (v := .pointer (some ⟨g, 0, none⟩)) ?_ ⟨Adds.refl _, rfl⟩; go_simp)
    · refine showA_op 2 (by intro _ _ _; kernel_rfl) rfl rfl (fun c vals w hC hD => ?_)
      have h1 : vals 1 = .pointer (some ⟨g, 0, none⟩) := hD 1 rfl
      clear hD
      refine makes1 (x := .tmp 40) (X := Value.pointer (some ⟨g, 0, none⟩)) ((by kernel_rfl : _ = vals 1).trans h1) (fun ρ rc rf q40 => ?_)
      clear h1
      (refine makes_value (v := .pointer (some ⟨g, 0, none⟩)) ?_ ⟨Adds.refl _, rfl⟩; go_simp)
    · refine showA_op 3 (by intro _ _ _; kernel_rfl) rfl rfl (fun c vals w hC hD => ?_)
      have h2 : vals 2 = .pointer (some ⟨g, 0, none⟩) := hD 2 rfl
      clear hD
      refine makes1 (x := .tmp 41) (X := Value.pointer (some ⟨g, 0, none⟩)) ((by kernel_rfl : _ = vals 2).trans h2) (fun ρ rc rf q41 => ?_)
      clear h2
      exact makes_load (loads_cell (hrow (hM.adds hC)).1 (on_of rfl)) rfl q41 ⟨Adds.refl _, rfl⟩
    · refine showA_op 4 (by intro _ _ _; kernel_rfl) rfl rfl (fun c vals w hC hD => ?_)
      clear hD
      refine makes1 (x := .tmp 4) (X := Value.pointer (some ⟨gp, 0, none⟩)) (by kernel_rfl : _ = (Value.pointer (some ⟨gp, 0, none⟩) : Value)) (fun ρ rc rf q4 => ?_)
      exact makes_load (loads_cell (hc4 _ hC) (on_of rfl)) rfl q4 ⟨Adds.refl _, rfl⟩
    · refine showA_op 5 (by intro _ _ _; kernel_rfl) rfl rfl (fun c vals w hC hD => ?_)
      have h4 : vals 4 = .pointer (some ⟨g, 0, none⟩) := hD 4 rfl
      clear hD
      refine makes1 (x := .tmp 43) (X := Value.pointer (some ⟨g, 0, none⟩)) ((by kernel_rfl : _ = vals 4).trans h4) (fun ρ rc rf q43 => ?_)
      clear h4
      (refine makes_value (v := .pointer (some ⟨g, 0, none⟩)) ?_ ⟨Adds.refl _, rfl⟩; go_simp)
    · refine showA_op 6 (by intro _ _ _; kernel_rfl) rfl rfl (fun c vals w hC hD => ?_)
      have h5 : vals 5 = .pointer (some ⟨g, 0, none⟩) := hD 5 rfl
      clear hD
      refine makes1 (x := .tmp 44) (X := Value.pointer (some ⟨g, 0, none⟩)) ((by kernel_rfl : _ = vals 5).trans h5) (fun ρ rc rf q44 => ?_)
      clear h5
      (refine makes_value (v := .pointer (some ⟨g, 1, none⟩)) ?_ ⟨Adds.refl _, rfl⟩; go_simp)
    · refine showA_op 7 (by intro _ _ _; kernel_rfl) rfl rfl (fun c vals w hC hD => ?_)
      have h6 : vals 6 = .pointer (some ⟨g, 1, none⟩) := hD 6 rfl
      clear hD
      refine makes1 (x := .tmp 45) (X := Value.pointer (some ⟨g, 1, none⟩)) ((by kernel_rfl : _ = vals 6).trans h6) (fun ρ rc rf q45 => ?_)
      clear h6
      exact makes_load (loads_cell (hrow (hM.adds hC)).2 (on_of rfl)) rfl q45 ⟨Adds.refl _, rfl⟩
    · refine showA_op 8 (by intro _ _ _; kernel_rfl) rfl rfl (fun c vals w hC hD => ?_)
      have h3 : vals 3 = .int .i64 (ec : Int) := hD 3 rfl
      have h7 : vals 7 = .int .i64 (ek : Int) := hD 7 rfl
      clear hD
      refine makes2 (x := .tmp 42) (X := Value.int .i64 (ec : Int)) (y := .tmp 46) (Y := Value.int .i64 (ek : Int)) ((by kernel_rfl : _ = vals 3).trans h3) ((by kernel_rfl : _ = vals 7).trans h7) (fun ρ rc rf q42 q46 => ?_)
      clear h3 h7
      exact makes_build1 (fun w => hb0 w _ _) rfl (by simp only [List.map_cons, List.map_nil]; rw [q42, q46]) ⟨Adds.refl _, rfl⟩
    intro vals w' hC hΦ hne
    have h8 : vals 8 = .agg #[.int .i64 (ec : Int), .int .i64 (ek : Int)] := hΦ 8 (by decide)
    clear hΦ hne
    simp only [List.getD_eq_getElem?_getD, List.getElem?_cons_zero, List.getElem?_cons_succ, Option.getD_some, List.drop_succ_cons, List.drop_zero]
    simp only [h8]
    clear h8
    try simp only [tuple_undef]
    replace hM := hM.adds hC
    clear hC hc4
    go_wp2_with (first | go_skip | ((first | (with_reducible refine gL_load ?_) | ((with_reducible refine gG_load ?_ ?_); (exact wanted_of rfl rfl rfl rfl rfl))); refine ⟨_, _, rfl, (by (first | (assumption) | (exact hM.loads_B8 (by (repeat (first | exact .head _ | apply List.Mem.tail)); done) (on_of rfl) (by first | omega | (simp only [Len] at *; omega) | (simp; omega))) | (exact hM.loads_all (by (repeat (first | exact .head _ | apply List.Mem.tail)); done) (ag_of rfl) (by first | assumption | exact Len.map (by assumption) _ | rfl | exact Len.map (by rfl) _ | exact Len.of (by simp; done))) | (exact hM.loads_one (by (repeat (first | exact .head _ | apply List.Mem.tail)); done) (on_of rfl) rfl) | (exact hM.loads_W32 (by (repeat (first | exact .head _ | apply List.Mem.tail)); done) (on_of rfl) (by first | omega | (simp only [Len] at *; omega) | (simp; omega))) | (exact loads_cell (by assumption) (on_of rfl)))), ?_⟩) | ((with_reducible refine gL_store hM ?_); refine ⟨_, _, _, rfl, rfl, (by (first | (exact hM.stores_B8 (by first | exact (rfl : B8 _ = B8 _) | exact lit8 _ (by decide)) (by (repeat (first | exact .here _ _ _ | apply Has.there)); done) (on_of rfl) (by first | omega | (simp only [Len] at *; omega) | (simp; omega))) | (exact hM.stores_all (by (repeat (first | exact .here _ _ _ | apply Has.there)); done) (ag_of rfl) (by first | assumption | exact Len.map (by assumption) _ | rfl | exact Len.map (by rfl) _ | exact Len.of (by simp; done)) (by first | assumption | exact Len.map (by assumption) _ | rfl | exact Len.map (by rfl) _ | exact Len.of (by simp; done)) (by first | exact B8_one | exact W32_one | exact one_of_all rfl)) | (exact hM.stores_W32 rfl (by (repeat (first | exact .here _ _ _ | apply Has.there)); done) (on_of rfl) (by first | omega | (simp only [Len] at *; omega) | (simp; omega))) | (exact hM.stores_one (by (repeat (first | exact .here _ _ _ | apply Has.there)); done) (on_of rfl) (by first | omega | (simp only [Len] at *; omega) | (simp; omega)) rfl rfl))), ?_⟩; intro _ hM2; clear hM; have hM := hM2; clear hM2) | ((with_reducible refine gL_alloc hM ?_); refine ⟨_, _, (zr_of rfl), ?_⟩; intro _ _ hM2; clear hM; have hM := hM2; clear hM2) | ((with_reducible refine gL_box hM ?_); refine ⟨_, _, _, rfl, rfl, (by first | assumption | exact Len.map (by assumption) _ | rfl | exact Len.map (by rfl) _ | exact Len.of (by simp; done)), ?_⟩; intro _ _ hM2; clear hM; have hM := hM2; clear hM2) | ((with_reducible refine gL_build0 ?_); refine ⟨_, _, _, _, _, _, (zr_of rfl), (ua_of rfl), (ag_of rfl), (el_of rfl), ?_⟩) | ((with_reducible refine gL_buildBytes hM ?_); refine ⟨_, _, (us_of rfl), (el_of rfl), (by decide), (by decide), rfl, (by (repeat (first | exact EvB.nil | apply EvB.cons rfl (by first | exact (rfl : B8 _ = B8 _) | exact lit8 _ (by decide)))); done), ?_⟩; intro _ _ hM2; clear hM; have hM := hM2; clear hM2) | ((with_reducible refine gL_append_B hM ?_); refine ⟨_, _, _, _, _, _, _, _, _, _, rfl, rfl, (by first | exact (rfl : Value.slice (some ⟨_, 0, none⟩) _ _ = sl (some _) _ _) | exact (rfl : Value.slice none _ _ = sl none _ _) | rfl), (us_of rfl), (el_of rfl), (by first | exact hM.src (by (repeat (first | exact .head _ | apply List.Mem.tail)); done) | exact (hM.bytes0 (by assumption)).src), (fun _ _ => by (repeat (first | exact .here _ _ _ | apply Swap.there)); done), (by first | assumption | exact Len.map (by assumption) _ | rfl | exact Len.map (by rfl) _ | exact Len.of (by simp; done)), (by first | assumption | exact Len.map (by assumption) _ | rfl | exact Len.map (by rfl) _ | exact Len.of (by simp; done)), (by first | assumption | (simp [maxLen]; done) | omega | (simp [maxLen]; omega)), (by first | omega | (simp only [Len] at *; omega) | (simp; omega)), ?_⟩; intro _ _ _ hM2 _ _; clear hM; have hM := hM2; clear hM2) | ((first | (with_reducible refine gL_field ?_) | ((with_reducible refine gG_field ?_ ?_); (exact wanted_of rfl rfl rfl rfl rfl))); refine ⟨_, _, rfl, (by (first | (exact field_one (fb_of rfl) rfl) | (exact field_agg (fa_of rfl) rfl))), ?_⟩))
    have hM3 : Mem [] w0 _ (⟨some gn, 28, [.int .i64 (ec : Int)], 1⟩ :: ⟨some gp, 52, [.pointer (some ⟨g, 0, none⟩)], 1⟩ :: ⟨some gr, 39, wrongC ec ek, 2⟩ :: []) := hM
    exact hM3.ret_cell_tmp rfl rfl rfl rfl (.tail _ (.tail _ (.head _))) (ag_of rfl) rfl ⟨rfl, hM3.done⟩
end Go.Proofs.YtejmbkljnhnklaaDoor
