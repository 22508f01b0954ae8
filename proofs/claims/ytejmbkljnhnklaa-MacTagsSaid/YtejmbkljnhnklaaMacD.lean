/-
  '[]byte(s)' of a string; the walks of the two Derives.
-/
import Derived.Laws.IdiomStrings
import Derived.ArgAppend
import Derived.Test.YtejmbkljnhnklaaMacR2
import Derived.Test.YtejmbkljnhnklaaMacF
namespace Go.PK
open Go.RowKit
theorem conv_bytes {P : Program} {src dst e : TypeId} (hs : P.underlying src = some .string) (hd : P.underlying dst = some (.slice e)) (he : P.underlying e = some (.int .u8)) (w : World) (l : List UInt8) (hl : l.length ≤ maxLen) :
    ∃ cap w', (convert src dst (.string ⟨l.toArray⟩)).run P w = .ok (.slice (some ⟨w.heap.size, 0, none⟩) l.length cap) w' ∧ Adds w w' ∧ Bytes w' (.slice (some ⟨w.heap.size, 0, none⟩) l.length cap) l ∧ cap ≤ maxLen ∧
      w'.heap.size = w.heap.size + 1 ∧ ∀ j, j < cap → (w'.cell? ⟨w.heap.size, j, none⟩).isSome = true ∧ w'.frozen? ⟨w.heap.size, j, none⟩ = false := by
  have hrun := run_bytes_of_string (P := P) w src dst e ⟨l.toArray⟩ hs hd he
  have hsz : (⟨l.toArray⟩ : ByteArray).size = l.length := by simp [ByteArray.size]
  rw [hsz] at hrun
  have hge := grownCap_ge w l.length 0 e
  have hle := grownCap_le_maxLen w l.length 0 e hl
  generalize grownCap w l.length 0 e = cap at *
  have hR : bytesRow ⟨l.toArray⟩ cap = (l.map B8 ++ List.replicate (cap - l.length) (B8 0)).toArray := by
    unfold bytesRow
    apply Array.ext'
    simp [hsz, B8]
  have hsz2 : (l.map B8 ++ List.replicate (cap - l.length) (B8 0)).toArray.size = cap := by simp; omega
  rw [hR, hsz2] at hrun
  have hg : (w.drew.alloc (.cells (l.map B8 ++ List.replicate (cap - l.length) (B8 0)).toArray e (cap, cap + 1))).heap[w.heap.size]? = some (.cells (l.map B8 ++ List.replicate (cap - l.length) (B8 0)).toArray e (cap, cap + 1)) := heap_alloc_new w.drew _
  refine ⟨cap, _, hrun, ((Adds.refl w).drew).alloc (Nat.le_refl _) _, Bytes.of_block hg (fun j hj => ?_) hge (by simpa [maxLen] using hle), hle, by simp, fun j hj => ⟨?_, ?_⟩⟩
  · rw [Nat.zero_add, List.getElem?_toArray, List.getElem?_append_left (by simpa using hj)]
    exact get_map 0 hj
  · rw [cell_row hg, List.getElem?_toArray, List.getElem?_eq_getElem (by simp; omega)]
    rfl
  · unfold World.frozen?
    show (match (w.drew.alloc (.cells (l.map B8 ++ List.replicate (cap - l.length) (B8 0)).toArray e (cap, cap + 1))).heap[w.heap.size]? with
      | some (.cells _ _ (lo, hi)) => decide (lo ≤ j) && decide (j < hi)
      | _ => false) = false
    rw [hg]
    simp
    omega
theorem gL_convert {P : Program} {Q : Exit → Act → World → Prop} {ops : Array Oper} {rest : List Oper} {a : Act} {w : World} {dst' : Option Tmp} {type : TypeId} {pos : String} {after : Array Edge} {src dst : TypeId} {x : Operand}
    (h : ∃ X v w', a.eval x = X ∧ (convert src dst X).run P w = .ok v w' ∧ wpList P ops Q rest (a.put dst' v) w') : wpList P ops Q (Oper.mk dst' (.convert src dst x) type pos after none :: rest) a w := by
  obtain ⟨X, v, w', rfl, h1, h2⟩ := h
  refine wpList_plain rfl fun K hk => ?_
  unfold Oper.wp execOp
  simp only [Sem.run_bind, Sem.run_pure, Result.andThen_ok, h1]
  exact hk _ _ h2
end Go.PK
namespace Go.Proofs.Ytejmbkljnhnklaa
open Go.RowKit Go.PK
set_option maxRecDepth 100000 in
set_option maxHeartbeats 4000000 in
theorem mac_Derive (w0 : World) (v1 : Value) (key label : List UInt8) (hv1 : Bytes w0 v1 key) (h1 : key.length ≤ 140737488355000) (h2 : label.length ≤ 140737488354000) (T : List UInt8) (hT : Mac.derive key label = T) :
    Calls Try.prog 32 #[v1, .string ⟨label.toArray⟩] w0 fun e w' => e = .returned (.agg (T.map B8).toArray) ∧ Below w0.heap.size w0 w' := by
  have hTl : Len T 32 := by rw [← hT]; exact Len.of (Mac.tag_len _ _)
  have HT : ∀ _ : Unit, Sha.of (Mac.over (Mac.block key) 0x5C ++ Sha.of (Mac.over (Mac.block key) 0x36 ++ label ++ [0, 1, 0, 0, 0])) = T := fun _ => by rw [← hT, List.append_assoc]; rfl
  have hOl : (Mac.over (Mac.block key) 0x5C).length = 64 := by rw [Mac.over_len]; exact Mac.block_len _
  have hIl : (Mac.over (Mac.block key) 0x36).length = 64 := by rw [Mac.over_len]; exact Mac.block_len _
  have hnew : ∀ w, Bytes w v1 key → _ := fun w h => mac_New w v1 key h h1
  generalize Mac.over (Mac.block key) 0x5C = O at *
  generalize Mac.over (Mac.block key) 0x36 = I at *
  clear hT
  have hM := Mem.start w0
  go_enter Try.func32, Try.ntmps32
  go_wp2_with (first | ((first | ((with_reducible refine gL_alloc (dst := some 4) hM ?_); refine ⟨_, _, (zr_of rfl), ?_⟩) | ((with_reducible refine gL_box (dst := some 4) hM ?_); refine ⟨_, _, _, rfl, rfl, (by first | assumption | exact Len.map (by assumption) _ | rfl | exact Len.map (by rfl) _ | exact Len.of (by simp; done)), ?_⟩)); intro g4 _ hM2; clear hM; have hM := hM2; clear hM2))
  refine (hnew _ (hM.bytes0 hv1)).mono ?_
  rintro _ w1 ⟨gm, gd, C, rfl, hM3, hC⟩
  replace hM := hM.addNew2 hM3.done (hM3.holds _ (.head _)) (hM3.holds _ (.tail _ (.head _))) (hM3.mem_new (.head _)) (hM3.mem_new (.tail _ (.head _))) (by have := hM3.nodup; simp at this; omega)
  clear hM3
  have hnd := hM.mem_new (.tail _ (.head _))
  obtain ⟨capl, wl, hrun, hAl, hBl, hcl, hsl, -⟩ := conv_bytes (P := Try.prog) (src := 9) (dst := 22) (e := 5) Try.underlying9 Try.underlying22 Try.underlying5 w1 label (by simp only [maxLen]; omega)
  have hdl : gd < w1.heap.size := (hM.holds _ (.tail _ (.head _))).lt rfl
  go_wp2_with (first | ((with_reducible refine gL_load ?_); refine ⟨_, _, rfl, hM.loads_one (.head _) (on_of rfl) (rfl : (macC gd O)[0]? = some (.pointer (some ⟨gd, 0, none⟩))), ?_⟩) | ((with_reducible refine gL_convert ?_); refine ⟨_, _, _, rfl, hrun, ?_⟩))
  replace hM := hM.adds hAl
  have hRw := hM.rowN (.tail _ (.head _)) hC.len
  refine (sha_Write _ gd C I hRw hC _ label hBl (fun _ a n' cap' he => by cases he; show w1.heap.size ≠ gd; omega) (by omega)).mono ?_
  rintro _ w2 ⟨rfl, C2, hT2, hR2, hC2⟩
  replace hM := hM.calls (.there _ (.here _ _ _)) hT2 hR2 hC2.len
  clear hT2 hR2 hRw hBl hrun
  go_wp2_with (first | ((with_reducible refine gL_load ?_); refine ⟨_, _, rfl, hM.loads_one (.head _) (on_of rfl) (rfl : (macC gd O)[0]? = some (.pointer (some ⟨gd, 0, none⟩))), ?_⟩) | go_skip | ((first | (with_reducible refine gL_load ?_) | ((with_reducible refine gG_load ?_ ?_); (exact wanted_of rfl rfl rfl rfl rfl))); refine ⟨_, _, rfl, (by (first | (assumption) | (exact hM.loads_B8 (by (repeat (first | exact .head _ | apply List.Mem.tail)); done) (on_of rfl) (by first | omega | (simp only [Len] at *; omega) | (simp; omega))) | (exact hM.loads_all (by (repeat (first | exact .head _ | apply List.Mem.tail)); done) (ag_of rfl) (by first | assumption | exact Len.map (by assumption) _ | rfl | exact Len.map (by rfl) _ | exact Len.of (by simp; done))) | (exact hM.loads_one (by (repeat (first | exact .head _ | apply List.Mem.tail)); done) (on_of rfl) rfl) | (exact hM.loads_W32 (by (repeat (first | exact .head _ | apply List.Mem.tail)); done) (on_of rfl) (by first | omega | (simp only [Len] at *; omega) | (simp; omega))) | (exact loads_cell (by assumption) (on_of rfl)))), ?_⟩) | ((with_reducible refine gL_store hM ?_); refine ⟨_, _, _, rfl, rfl, (by (first | (exact hM.stores_B8 (by first | exact (rfl : B8 _ = B8 _) | exact lit8 _ (by decide)) (by (repeat (first | exact .here _ _ _ | apply Has.there)); done) (on_of rfl) (by first | omega | (simp only [Len] at *; omega) | (simp; omega))) | (exact hM.stores_all (by (repeat (first | exact .here _ _ _ | apply Has.there)); done) (ag_of rfl) (by first | assumption | exact Len.map (by assumption) _ | rfl | exact Len.map (by rfl) _ | exact Len.of (by simp; done)) (by first | assumption | exact Len.map (by assumption) _ | rfl | exact Len.map (by rfl) _ | exact Len.of (by simp; done)) (by first | exact B8_one | exact W32_one | exact one_of_all rfl)) | (exact hM.stores_W32 rfl (by (repeat (first | exact .here _ _ _ | apply Has.there)); done) (on_of rfl) (by first | omega | (simp only [Len] at *; omega) | (simp; omega))) | (exact hM.stores_one (by (repeat (first | exact .here _ _ _ | apply Has.there)); done) (on_of rfl) (by first | omega | (simp only [Len] at *; omega) | (simp; omega)) rfl rfl))), ?_⟩; intro _ hM2; clear hM; have hM := hM2; clear hM2) | ((with_reducible refine gL_alloc hM ?_); refine ⟨_, _, (zr_of rfl), ?_⟩; intro _ _ hM2; clear hM; have hM := hM2; clear hM2) | ((with_reducible refine gL_box hM ?_); refine ⟨_, _, _, rfl, rfl, (by first | assumption | exact Len.map (by assumption) _ | rfl | exact Len.map (by rfl) _ | exact Len.of (by simp; done)), ?_⟩; intro _ _ hM2; clear hM; have hM := hM2; clear hM2) | ((with_reducible refine gL_build0 ?_); refine ⟨_, _, _, _, _, _, (zr_of rfl), (ua_of rfl), (ag_of rfl), (el_of rfl), ?_⟩) | ((with_reducible refine gL_buildBytes hM ?_); refine ⟨_, _, (us_of rfl), (el_of rfl), (by decide), (by decide), rfl, (by (repeat (first | exact EvB.nil | apply EvB.cons rfl (by first | exact (rfl : B8 _ = B8 _) | exact lit8 _ (by decide)))); done), ?_⟩; intro _ _ hM2; clear hM; have hM := hM2; clear hM2) | ((with_reducible refine gL_append_B hM ?_); refine ⟨_, _, _, _, _, _, _, _, _, _, rfl, rfl, (by first | exact (rfl : Value.slice (some ⟨_, 0, none⟩) _ _ = sl (some _) _ _) | exact (rfl : Value.slice none _ _ = sl none _ _) | rfl), (us_of rfl), (el_of rfl), (by first | exact hM.src (by (repeat (first | exact .head _ | apply List.Mem.tail)); done) | exact (hM.bytes0 (by assumption)).src), (fun _ _ => by (repeat (first | exact .here _ _ _ | apply Swap.there)); done), (by first | assumption | exact Len.map (by assumption) _ | rfl | exact Len.map (by rfl) _ | exact Len.of (by simp; done)), (by first | assumption | exact Len.map (by assumption) _ | rfl | exact Len.map (by rfl) _ | exact Len.of (by simp; done)), (by first | assumption | (simp [maxLen]; done) | omega | (simp [maxLen]; omega)), (by first | omega | (simp only [Len] at *; omega) | (simp; omega)), ?_⟩; intro _ _ _ hM2 _ _; clear hM; have hM := hM2; clear hM2) | ((first | (with_reducible refine gL_field ?_) | ((with_reducible refine gG_field ?_ ?_); (exact wanted_of rfl rfl rfl rfl rfl))); refine ⟨_, _, rfl, (by (first | (exact field_one (fb_of rfl) rfl) | (exact field_agg (fa_of rfl) rfl))), ?_⟩))
  have hRw := hM.rowN (.tail _ (.tail _ (.head _))) hC2.len
  have hBs := hM.whole (n := 5) (l := [0, 1, 0, 0, 0]) (.head _) rfl (by decide)
  have hne := hM.nodup
  refine (sha_Write _ gd C2 _ hRw hC2 _ [0, 1, 0, 0, 0] hBs (fun _ a n' cap' he => by cases he; simp at hne ⊢; omega) (by simp; omega)).mono ?_
  rintro _ w3 ⟨rfl, C3, hT3, hR3, hC3⟩
  replace hM := hM.calls (.there _ (.there _ (.here _ _ _))) hT3 hR3 hC3.len
  clear hT3 hR3 hRw hBs hne
  go_wp2_with fail
  have hRm := hM.rowN (.tail _ (.head _)) (macC_len hOl)
  have hRd := hM.rowN (.tail _ (.tail _ (.head _))) hC3.len
  refine (mac_Sum _ gm gd O C3 _ hRm hOl hRd hC3 (by simp; omega)).mono ?_
  rintro _ w4 ⟨rfl, hB⟩
  replace hM := hM.adds hB
  clear hB hRm hRd
  rw [HT ()]
  go_wp2_with (first | ((with_reducible refine gL_store hM ?_); refine ⟨_, _, _, rfl, rfl, hM.stores_all (by (repeat (first | exact .here _ _ _ | apply Has.there)); done) (ag_of rfl) (hTl.map _) (by rfl) B8_one, ?_⟩; intro _ hM2; clear hM; have hM := hM2; clear hM2))
  exact hM.ret_cell rfl rfl rfl (by (repeat (first | exact .head _ | apply List.Mem.tail)); done) (ag_of rfl) (hTl.map _) ⟨rfl, hM.done⟩
end Go.Proofs.Ytejmbkljnhnklaa
