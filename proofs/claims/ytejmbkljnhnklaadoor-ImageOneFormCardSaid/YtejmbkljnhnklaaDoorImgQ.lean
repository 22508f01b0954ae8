/-
  The walk of the reference's Parse.
-/
import Derived.Test.YtejmbkljnhnklaaDoorImgP
namespace Go.PK
open Go.RowKit
section
variable {P : Program} {a : Act} {w : World} {G : List Nat} {w0 : World} {L : List Blk}
theorem Mem.ret_cells (hM : Mem G w0 w L) {fn : Func} {R : Ending → World → Prop} {p q : Tmp} {ty tz : TypeId} (hres : fn.results = #[.cell p ty, .cell q tz]) {g1 g2 : Nat} {t1 t2 : TypeId} {C1 C2 : List Value} {N1 N2 : Nat}
    (hp : a.tmps.getD p undef = .pointer (some ⟨g1, 0, none⟩)) (hq : a.tmps.getD q undef = .pointer (some ⟨g2, 0, none⟩)) (hd : a.defers = []) (hb1 : ⟨some g1, t1, C1, N1⟩ ∈ L) (hb2 : ⟨some g2, t2, C2, N2⟩ ∈ L)
    (ht1 : aggB P ty N1 = true) (ht2 : aggB P tz N2 = true) (hn1 : Len C1 N1) (hn2 : Len C2 N2) (h : R (.returned (.tuple #[.agg C1.toArray, .agg C2.toArray])) w) : bodyPost P fn R .ret a w := by
  have hp' : a.tmps[p]?.getD undef = .pointer (some ⟨g1, 0, none⟩) := by simpa using hp
  have hq' : a.tmps[q]?.getD undef = .pointer (some ⟨g2, 0, none⟩) := by simpa using hq
  have h1 := hM.loads_all (P := P) hb1 ht1 hn1
  have h2 := hM.loads_all (P := P) hb2 ht2 hn2
  unfold Loads at h1 h2
  exact ⟨hd, .tuple #[.agg C1.toArray, .agg C2.toArray], by simp [results, hres, hp', hq', asAddr, h1, h2], h⟩
/-- x[lo:hi] of bytes that are read -/
theorem bytes_cut {ao : Option Addr} {n cap : Nat} {l : List UInt8} (h : Bytes w (.slice ao n cap) l) {t e : TypeId} (hu : P.underlying t = some (.slice e)) (he : (P.info? e).map (·.size) = some 1) {lo hi : Nat} (h1 : lo ≤ hi) (h2 : hi ≤ n) :
    ∃ ao', Sliced P t (.slice ao n cap) (some (.int .i64 (lo : Int))) (some (.int .i64 (hi : Int))) none (.slice ao' (hi - lo) (cap - lo)) ∧ Bytes w (.slice ao' (hi - lo) (cap - lo)) ((l.drop lo).take (hi - lo)) := by
  obtain ⟨e1, e2, e3⟩ := h.form
  have hsub := h.sub (lo := lo) (hi := hi) (mx := cap) h1 (by omega) (by omega) (Nat.le_refl _)
  cases hq : P.info? e with
  | none => simp [hq] at he
  | some i =>
    have hs : i.size = 1 := by simpa [hq] using he
    refine ⟨_, fun w => ?_, hsub⟩
    have hb : (Instr.sliceBounds true n cap (some (.int .i64 (lo : Int))) (some (.int .i64 (hi : Int))) none).run P w = .ok (lo, hi, cap) w := by
      have h3 : (hi : Int) ≤ cap := by omega
      simp [Instr.sliceBounds, run_sliceBound, h1, h3]
    simp only [Instr.sliceAt, Instr.slice, Sem.run_bind, run_underlying hu, Sem.run_pure, Result.andThen_ok, hb, sizeOf, typeInfo]
    simp [hq, hs]
end
end Go.PK
namespace Go.Proofs.YtejmbkljnhnklaaDoor
open Go.RowKit Go.PK
theorem im_set (x y z : Int) (T : List UInt8) (p : Value) (pay : List UInt8) (j : Nat) (c : UInt8) : (imC ⟨x, y, z, pay, T⟩ p).set (4 + j) (B8 c) = imC ⟨x, y, z, pay, T.set j c⟩ p := by
  show _ = ([.int .i64 x, .int .i64 y, .int .i64 z, p] : List Value) ++ (T.set j c).map B8
  rw [List.map_set]
  show (([.int .i64 x, .int .i64 y, .int .i64 z, p] : List Value) ++ T.map B8).set (4 + j) (B8 c) = _
  rw [List.set_append_right _ _ (by simp)]
  simp
theorem fill_set (T : List UInt8) (hT : T.length = 32) (j : Nat) (hj : j < 32) : (T.take j ++ List.replicate (32 - j) 0).set j (gb T j) = T.take (j + 1) ++ List.replicate (32 - (j + 1)) 0 := by
  have h1 : (T.take j).length = j := by rw [List.length_take, hT]; omega
  rw [List.set_append_right _ _ (by omega), h1, Nat.sub_self, show 32 - j = (32 - (j + 1)) + 1 from by omega, List.replicate_succ, List.set_cons_zero, List.take_succ_eq_append_getElem (by omega), List.append_assoc]
  unfold gb
  rw [List.getD_eq_getElem?_getD, List.getElem?_eq_getElem (by omega)]
  rfl
theorem gb_drop (b : List UInt8) (m j : Nat) : gb b (m + j) = gb (b.drop m) j := by
  unfold gb
  rw [List.getD_eq_getElem?_getD, List.getD_eq_getElem?_getD, List.getElem?_drop]

set_option maxRecDepth 100000 in
set_option maxHeartbeats 4000000 in
theorem ref11_Parse (w0 : World) (v : Value) (b : List UInt8) (hv : Bytes w0 v b) (hbl : b.length ≤ 140737488351232) :
    Calls Tryd.prog 14 #[v] w0 fun e w' => ∃ x c k ob cap n, Img.parse b = (x, (c, k)) ∧ Len x.pay n ∧ Len x.tag 32 ∧ e = .returned (.tuple #[.agg (imC x (sl ob n cap)).toArray, .agg (wrongC c k).toArray]) ∧ cap ≤ maxLen ∧ Mem [] w0 w' [⟨ob, 5, x.pay.map B8, cap⟩] := by
  have hM := Mem.start w0
  have hz := im0_zero
  have hzC := imC_len (x := Img.im0) (Len.rep 32 0) (.slice none 0 0)
  have hzw : Zr Tryd.prog 39 (wrongC 0 0) 2 := (zr_of rfl)
  obtain ⟨nb, hnb⟩ : ∃ n, b.length = n := ⟨_, rfl⟩
  obtain ⟨ao, cap0, rfl, g1, g2, -⟩ := id hv
  rw [hnb] at hbl g1 hv ⊢
  have hbl2 : Len b nb := Len.of hnb
  have hbigp : 524288 < nb → Img.parse b = (Img.im0, (4, 524288)) := fun h => parse_big (by rw [hnb]; exact h)
  have hfirp : ¬ 524288 < nb → ∀ e, Img.first b 0 16 = some e → Img.parse b = (Img.im0, e) := fun h e he => parse_first (by rw [hnb]; exact h) he
  have hresp : ¬ 524288 < nb → Img.first b 0 16 = none → Img.parse b = Img.rest b (Img.number (b.drop 12)) := fun h he => parse_rest (by rw [hnb]; exact h) he
  have h16 : Img.first b 0 16 = none → 16 ≤ nb := fun h => by
    rcases Nat.lt_or_ge b.length 16 with h1 | h1
    · have := Img.none_first 16 0 h b.length (by omega) (by omega)
      rw [Img.stop, if_pos rfl] at this
      cases this
    · omega
  have hbld : ∀ (w : World) (x y z : Int), (Instr.build 27 #[(0, .int .i64 x), (1, .int .i64 y), (2, .int .i64 z)]).run Tryd.prog w = .ok (.agg (imC ⟨x, y, z, [], List.replicate 32 0⟩ (.slice none 0 0)).toArray) w := fun w x y z => by kernel_rfl
  have hstop : ∀ k, k < 16 → k < nb → Img.stop b k = if Img.must k (gb b k) then none else some (5, k) := fun k _ hk => by rw [Img.stop, if_neg (by rw [hnb]; omega)]
  have hstop2 : Img.stop b nb = some (6, nb) := by rw [Img.stop, if_pos hnb.symm]
  have hcell : ∀ w, Bytes w (.slice ao nb cap0) b → ∀ k, k < nb → ∃ bb off, ao = some ⟨bb, off, none⟩ ∧ w.cell? ⟨bb, off + k, none⟩ = some (B8 (gb b k)) := fun w h k hk => by
    obtain ⟨bb, off, e, -, hc⟩ := h.at (k := k) (by rw [hnb]; exact hk)
    exact ⟨bb, off, e, hc⟩
  clear hnb
  go_enter Tryd.func14, Tryd.ntmps14
  by_cases hbig : 524288 < nb
  · have hbi : (524288 : Int) < (nb : Int) := by omega
    have hP := hbigp hbig
    clear hbigp hfirp hresp
    go_wp2_with (first
      | ((with_reducible refine gL_alloc (dst := some 2) hM ?_); refine ⟨_, _, hz, ?_⟩; intro gr _ hM2; clear hM; have hM := hM2; clear hM2)
      | ((with_reducible refine gL_alloc (dst := some 3) hM ?_); refine ⟨_, _, hzw, ?_⟩; intro gw _ hM2; clear hM; have hM := hM2; clear hM2)
      | go_skip | ((first | (with_reducible refine gL_load ?_) | ((with_reducible refine gG_load ?_ ?_); (exact wanted_of rfl rfl rfl rfl rfl))); refine ⟨_, _, rfl, (by (first | (assumption) | (exact hM.loads_B8 (by (repeat (first | exact .head _ | apply List.Mem.tail)); done) (on_of rfl) (by first | omega | (simp only [Len] at *; omega) | (simp; omega))) | (exact hM.loads_all (by (repeat (first | exact .head _ | apply List.Mem.tail)); done) (ag_of rfl) (by first | assumption | exact Len.map (by assumption) _ | rfl | exact Len.map (by rfl) _ | exact Len.of (by simp; done))) | (exact hM.loads_one (by (repeat (first | exact .head _ | apply List.Mem.tail)); done) (on_of rfl) rfl) | (exact hM.loads_W32 (by (repeat (first | exact .head _ | apply List.Mem.tail)); done) (on_of rfl) (by first | omega | (simp only [Len] at *; omega) | (simp; omega))) | (exact loads_cell (by assumption) (on_of rfl)))), ?_⟩) | ((with_reducible refine gL_store hM ?_); refine ⟨_, _, _, rfl, rfl, (by (first | (exact hM.stores_B8 (by first | exact (rfl : B8 _ = B8 _) | exact lit8 _ (by decide)) (by (repeat (first | exact .here _ _ _ | apply Has.there)); done) (on_of rfl) (by first | omega | (simp only [Len] at *; omega) | (simp; omega))) | (exact hM.stores_all (by (repeat (first | exact .here _ _ _ | apply Has.there)); done) (ag_of rfl) (by first | assumption | exact Len.map (by assumption) _ | rfl | exact Len.map (by rfl) _ | exact Len.of (by simp; done)) (by first | assumption | exact Len.map (by assumption) _ | rfl | exact Len.map (by rfl) _ | exact Len.of (by simp; done)) (by first | exact B8_one | exact W32_one | exact one_of_all rfl)) | (exact hM.stores_W32 rfl (by (repeat (first | exact .here _ _ _ | apply Has.there)); done) (on_of rfl) (by first | omega | (simp only [Len] at *; omega) | (simp; omega))) | (exact hM.stores_one (by (repeat (first | exact .here _ _ _ | apply Has.there)); done) (on_of rfl) (by first | omega | (simp only [Len] at *; omega) | (simp; omega)) rfl rfl))), ?_⟩; intro _ hM2; clear hM; have hM := hM2; clear hM2) | ((with_reducible refine gL_alloc hM ?_); refine ⟨_, _, (zr_of rfl), ?_⟩; intro _ _ hM2; clear hM; have hM := hM2; clear hM2) | ((with_reducible refine gL_box hM ?_); refine ⟨_, _, _, rfl, rfl, (by first | assumption | exact Len.map (by assumption) _ | rfl | exact Len.map (by rfl) _ | exact Len.of (by simp; done)), ?_⟩; intro _ _ hM2; clear hM; have hM := hM2; clear hM2) | ((with_reducible refine gL_build0 ?_); refine ⟨_, _, _, _, _, _, (zr_of rfl), (ua_of rfl), (ag_of rfl), (el_of rfl), ?_⟩) | ((with_reducible refine gL_buildBytes hM ?_); refine ⟨_, _, (us_of rfl), (el_of rfl), (by decide), (by decide), rfl, (by (repeat (first | exact EvB.nil | apply EvB.cons rfl (by first | exact (rfl : B8 _ = B8 _) | exact lit8 _ (by decide)))); done), ?_⟩; intro _ _ hM2; clear hM; have hM := hM2; clear hM2) | ((with_reducible refine gL_append_B hM ?_); refine ⟨_, _, _, _, _, _, _, _, _, _, rfl, rfl, (by first | exact (rfl : Value.slice (some ⟨_, 0, none⟩) _ _ = sl (some _) _ _) | exact (rfl : Value.slice none _ _ = sl none _ _) | rfl), (us_of rfl), (el_of rfl), (by first | exact hM.src (by (repeat (first | exact .head _ | apply List.Mem.tail)); done) | exact (hM.bytes0 (by assumption)).src), (fun _ _ => by (repeat (first | exact .here _ _ _ | apply Swap.there)); done), (by first | assumption | exact Len.map (by assumption) _ | rfl | exact Len.map (by rfl) _ | exact Len.of (by simp; done)), (by first | assumption | exact Len.map (by assumption) _ | rfl | exact Len.map (by rfl) _ | exact Len.of (by simp; done)), (by first | assumption | (simp [maxLen]; done) | omega | (simp [maxLen]; omega)), (by first | omega | (simp only [Len] at *; omega) | (simp; omega)), ?_⟩; intro _ _ _ hM2 _ _; clear hM; have hM := hM2; clear hM2) | ((first | (with_reducible refine gL_field ?_) | ((with_reducible refine gG_field ?_ ?_); (exact wanted_of rfl rfl rfl rfl rfl))); refine ⟨_, _, rfl, (by (first | (exact field_one (fb_of rfl) rfl) | (exact field_agg (fa_of rfl) rfl))), ?_⟩))
    have hM3 : Mem [] w0 _ (⟨some gw, 39, wrongC 4 524288, 2⟩ :: ⟨some gr, 27, imC Img.im0 (.slice none 0 0), 36⟩ :: []) := hM
    exact hM3.ret_cells rfl rfl rfl rfl (.tail _ (.head _)) (.head _) (ag_of rfl) (ag_of rfl) hzC rfl ⟨Img.im0, 4, 524288, none, 0, 0, hP, rfl, Len.rep 32 0, rfl, by decide, (hM3.drop.drop.addNil 5)⟩
  · have hbi : ¬ (524288 : Int) < (nb : Int) := by omega
    replace hfirp := hfirp hbig
    replace hresp := hresp hbig
    clear hbigp
    go_wp2_with (first
      | ((with_reducible refine gL_alloc (dst := some 2) hM ?_); refine ⟨_, _, hz, ?_⟩; intro gr _ hM2; clear hM; have hM := hM2; clear hM2)
      | ((with_reducible refine gL_alloc (dst := some 3) hM ?_); refine ⟨_, _, hzw, ?_⟩; intro gw _ hM2; clear hM; have hM := hM2; clear hM2)
      | go_skip | ((first | (with_reducible refine gL_load ?_) | ((with_reducible refine gG_load ?_ ?_); (exact wanted_of rfl rfl rfl rfl rfl))); refine ⟨_, _, rfl, (by (first | (assumption) | (exact hM.loads_B8 (by (repeat (first | exact .head _ | apply List.Mem.tail)); done) (on_of rfl) (by first | omega | (simp only [Len] at *; omega) | (simp; omega))) | (exact hM.loads_all (by (repeat (first | exact .head _ | apply List.Mem.tail)); done) (ag_of rfl) (by first | assumption | exact Len.map (by assumption) _ | rfl | exact Len.map (by rfl) _ | exact Len.of (by simp; done))) | (exact hM.loads_one (by (repeat (first | exact .head _ | apply List.Mem.tail)); done) (on_of rfl) rfl) | (exact hM.loads_W32 (by (repeat (first | exact .head _ | apply List.Mem.tail)); done) (on_of rfl) (by first | omega | (simp only [Len] at *; omega) | (simp; omega))) | (exact loads_cell (by assumption) (on_of rfl)))), ?_⟩) | ((with_reducible refine gL_store hM ?_); refine ⟨_, _, _, rfl, rfl, (by (first | (exact hM.stores_B8 (by first | exact (rfl : B8 _ = B8 _) | exact lit8 _ (by decide)) (by (repeat (first | exact .here _ _ _ | apply Has.there)); done) (on_of rfl) (by first | omega | (simp only [Len] at *; omega) | (simp; omega))) | (exact hM.stores_all (by (repeat (first | exact .here _ _ _ | apply Has.there)); done) (ag_of rfl) (by first | assumption | exact Len.map (by assumption) _ | rfl | exact Len.map (by rfl) _ | exact Len.of (by simp; done)) (by first | assumption | exact Len.map (by assumption) _ | rfl | exact Len.map (by rfl) _ | exact Len.of (by simp; done)) (by first | exact B8_one | exact W32_one | exact one_of_all rfl)) | (exact hM.stores_W32 rfl (by (repeat (first | exact .here _ _ _ | apply Has.there)); done) (on_of rfl) (by first | omega | (simp only [Len] at *; omega) | (simp; omega))) | (exact hM.stores_one (by (repeat (first | exact .here _ _ _ | apply Has.there)); done) (on_of rfl) (by first | omega | (simp only [Len] at *; omega) | (simp; omega)) rfl rfl))), ?_⟩; intro _ hM2; clear hM; have hM := hM2; clear hM2) | ((with_reducible refine gL_alloc hM ?_); refine ⟨_, _, (zr_of rfl), ?_⟩; intro _ _ hM2; clear hM; have hM := hM2; clear hM2) | ((with_reducible refine gL_box hM ?_); refine ⟨_, _, _, rfl, rfl, (by first | assumption | exact Len.map (by assumption) _ | rfl | exact Len.map (by rfl) _ | exact Len.of (by simp; done)), ?_⟩; intro _ _ hM2; clear hM; have hM := hM2; clear hM2) | ((with_reducible refine gL_build0 ?_); refine ⟨_, _, _, _, _, _, (zr_of rfl), (ua_of rfl), (ag_of rfl), (el_of rfl), ?_⟩) | ((with_reducible refine gL_buildBytes hM ?_); refine ⟨_, _, (us_of rfl), (el_of rfl), (by decide), (by decide), rfl, (by (repeat (first | exact EvB.nil | apply EvB.cons rfl (by first | exact (rfl : B8 _ = B8 _) | exact lit8 _ (by decide)))); done), ?_⟩; intro _ _ hM2; clear hM; have hM := hM2; clear hM2) | ((with_reducible refine gL_append_B hM ?_); refine ⟨_, _, _, _, _, _, _, _, _, _, rfl, rfl, (by first | exact (rfl : Value.slice (some ⟨_, 0, none⟩) _ _ = sl (some _) _ _) | exact (rfl : Value.slice none _ _ = sl none _ _) | rfl), (us_of rfl), (el_of rfl), (by first | exact hM.src (by (repeat (first | exact .head _ | apply List.Mem.tail)); done) | exact (hM.bytes0 (by assumption)).src), (fun _ _ => by (repeat (first | exact .here _ _ _ | apply Swap.there)); done), (by first | assumption | exact Len.map (by assumption) _ | rfl | exact Len.map (by rfl) _ | exact Len.of (by simp; done)), (by first | assumption | exact Len.map (by assumption) _ | rfl | exact Len.map (by rfl) _ | exact Len.of (by simp; done)), (by first | assumption | (simp [maxLen]; done) | omega | (simp [maxLen]; omega)), (by first | omega | (simp only [Len] at *; omega) | (simp; omega)), ?_⟩; intro _ _ _ hM2 _ _; clear hM; have hM := hM2; clear hM2) | ((first | (with_reducible refine gL_field ?_) | ((with_reducible refine gG_field ?_ ?_); (exact wanted_of rfl rfl rfl rfl rfl))); refine ⟨_, _, rfl, (by (first | (exact field_one (fb_of rfl) rfl) | (exact field_agg (fa_of rfl) rfl))), ?_⟩))
    go_loopw [4] (fun i wr => ∃ (k : Nat), k ≤ 16 ∧ k ≤ nb ∧ i = .int .i64 k ∧ Img.first b 0 16 = Img.first b k (16 - k) ∧ Mem [] w0 wr (⟨some gw, 39, wrongC 0 0, 2⟩ :: ⟨some gr, 27, imC Img.im0 (.slice none 0 0), 36⟩ :: [])) (fun i _ => 16 - (intOf i).toNat)
    case atStart => exact ⟨0, by omega, by omega, rfl, rfl, hM⟩
    case round =>
      clear hM
      obtain ⟨k, hk, hkn, rfl, hfk, hM⟩ := hrel
      by_cases hlt : k < 16
      · have hti : (k : Int) < 16 := by omega
        by_cases hend : k = nb
        · subst hend
          have hP := hfirp (6, k) (by rw [hfk, show 16 - k = (15 - k) + 1 from by omega]; exact Img.first_end hstop2)
          clear hfirp hresp hfk hstop hstop2 hcell h16
          go_wp2_with (first | go_skip | ((first | (with_reducible refine gL_load ?_) | ((with_reducible refine gG_load ?_ ?_); (exact wanted_of rfl rfl rfl rfl rfl))); refine ⟨_, _, rfl, (by (first | (assumption) | (exact hM.loads_B8 (by (repeat (first | exact .head _ | apply List.Mem.tail)); done) (on_of rfl) (by first | omega | (simp only [Len] at *; omega) | (simp; omega))) | (exact hM.loads_all (by (repeat (first | exact .head _ | apply List.Mem.tail)); done) (ag_of rfl) (by first | assumption | exact Len.map (by assumption) _ | rfl | exact Len.map (by rfl) _ | exact Len.of (by simp; done))) | (exact hM.loads_one (by (repeat (first | exact .head _ | apply List.Mem.tail)); done) (on_of rfl) rfl) | (exact hM.loads_W32 (by (repeat (first | exact .head _ | apply List.Mem.tail)); done) (on_of rfl) (by first | omega | (simp only [Len] at *; omega) | (simp; omega))) | (exact loads_cell (by assumption) (on_of rfl)))), ?_⟩) | ((with_reducible refine gL_store hM ?_); refine ⟨_, _, _, rfl, rfl, (by (first | (exact hM.stores_B8 (by first | exact (rfl : B8 _ = B8 _) | exact lit8 _ (by decide)) (by (repeat (first | exact .here _ _ _ | apply Has.there)); done) (on_of rfl) (by first | omega | (simp only [Len] at *; omega) | (simp; omega))) | (exact hM.stores_all (by (repeat (first | exact .here _ _ _ | apply Has.there)); done) (ag_of rfl) (by first | assumption | exact Len.map (by assumption) _ | rfl | exact Len.map (by rfl) _ | exact Len.of (by simp; done)) (by first | assumption | exact Len.map (by assumption) _ | rfl | exact Len.map (by rfl) _ | exact Len.of (by simp; done)) (by first | exact B8_one | exact W32_one | exact one_of_all rfl)) | (exact hM.stores_W32 rfl (by (repeat (first | exact .here _ _ _ | apply Has.there)); done) (on_of rfl) (by first | omega | (simp only [Len] at *; omega) | (simp; omega))) | (exact hM.stores_one (by (repeat (first | exact .here _ _ _ | apply Has.there)); done) (on_of rfl) (by first | omega | (simp only [Len] at *; omega) | (simp; omega)) rfl rfl))), ?_⟩; intro _ hM2; clear hM; have hM := hM2; clear hM2) | ((with_reducible refine gL_alloc hM ?_); refine ⟨_, _, (zr_of rfl), ?_⟩; intro _ _ hM2; clear hM; have hM := hM2; clear hM2) | ((with_reducible refine gL_box hM ?_); refine ⟨_, _, _, rfl, rfl, (by first | assumption | exact Len.map (by assumption) _ | rfl | exact Len.map (by rfl) _ | exact Len.of (by simp; done)), ?_⟩; intro _ _ hM2; clear hM; have hM := hM2; clear hM2) | ((with_reducible refine gL_build0 ?_); refine ⟨_, _, _, _, _, _, (zr_of rfl), (ua_of rfl), (ag_of rfl), (el_of rfl), ?_⟩) | ((with_reducible refine gL_buildBytes hM ?_); refine ⟨_, _, (us_of rfl), (el_of rfl), (by decide), (by decide), rfl, (by (repeat (first | exact EvB.nil | apply EvB.cons rfl (by first | exact (rfl : B8 _ = B8 _) | exact lit8 _ (by decide)))); done), ?_⟩; intro _ _ hM2; clear hM; have hM := hM2; clear hM2) | ((with_reducible refine gL_append_B hM ?_); refine ⟨_, _, _, _, _, _, _, _, _, _, rfl, rfl, (by first | exact (rfl : Value.slice (some ⟨_, 0, none⟩) _ _ = sl (some _) _ _) | exact (rfl : Value.slice none _ _ = sl none _ _) | rfl), (us_of rfl), (el_of rfl), (by first | exact hM.src (by (repeat (first | exact .head _ | apply List.Mem.tail)); done) | exact (hM.bytes0 (by assumption)).src), (fun _ _ => by (repeat (first | exact .here _ _ _ | apply Swap.there)); done), (by first | assumption | exact Len.map (by assumption) _ | rfl | exact Len.map (by rfl) _ | exact Len.of (by simp; done)), (by first | assumption | exact Len.map (by assumption) _ | rfl | exact Len.map (by rfl) _ | exact Len.of (by simp; done)), (by first | assumption | (simp [maxLen]; done) | omega | (simp [maxLen]; omega)), (by first | omega | (simp only [Len] at *; omega) | (simp; omega)), ?_⟩; intro _ _ _ hM2 _ _; clear hM; have hM := hM2; clear hM2) | ((first | (with_reducible refine gL_field ?_) | ((with_reducible refine gG_field ?_ ?_); (exact wanted_of rfl rfl rfl rfl rfl))); refine ⟨_, _, rfl, (by (first | (exact field_one (fb_of rfl) rfl) | (exact field_agg (fa_of rfl) rfl))), ?_⟩))
          have hM3 : Mem [] w0 _ (⟨some gw, 39, wrongC 6 k, 2⟩ :: ⟨some gr, 27, imC Img.im0 (.slice none 0 0), 36⟩ :: []) := hM
          exact hM3.ret_cells rfl rfl rfl rfl (.tail _ (.head _)) (.head _) (ag_of rfl) (ag_of rfl) hzC rfl ⟨Img.im0, 6, k, none, 0, 0, hP, rfl, Len.rep 32 0, rfl, by decide, (hM3.drop.drop.addNil 5)⟩
        · have hkl : k < nb := by omega
          have hki : (k : Int) < (nb : Int) := by omega
          have hne : ¬ (k : Int) = (nb : Int) := by omega
          obtain ⟨bb, off, rfl, hc⟩ := hcell _ (hM.bytes0 hv) k hkl
          have hs := hstop k hlt hkl
          by_cases hm : Img.must k (gb b k) = true
          · rw [if_pos hm] at hs
            have hf2 : Img.first b 0 16 = Img.first b (k + 1) (16 - (k + 1)) := by rw [hfk, show 16 - k = (16 - (k + 1)) + 1 from by omega]; exact Img.first_step hs
            have hcall : ∀ w, Calls Tryd.prog 30 #[.int .i64 (k : Int), B8 (gb b k)] w fun e w' => e = .returned (.bool true) ∧ w' = w := fun w => hm ▸ ref11_must w k hlt _
            generalize gb b k = c at *
            clear hfirp hresp hfk hstop hstop2 hcell h16 hs hm
            go_wp2_with (first
              | ((with_reducible refine gL_load (dst := some 30) ?_); refine ⟨_, _, rfl, loads_cell hc (on_of rfl), ?_⟩)
              | (go_at_call 30; (with_reducible refine (hcall _).mono ?_); rintro _ _ ⟨rfl, rfl⟩))
            go_roundw
            case rel => exact ⟨k + 1, by omega, by omega, by go_num, hf2, hM⟩
            case measure => simp [intOf]; omega
          · replace hm : Img.must k (gb b k) = false := by simpa using hm
            rw [hm] at hs
            have hP := hfirp (5, k) (by rw [hfk, show 16 - k = (15 - k) + 1 from by omega]; exact Img.first_end hs)
            have hcall : ∀ w, Calls Tryd.prog 30 #[.int .i64 (k : Int), B8 (gb b k)] w fun e w' => e = .returned (.bool false) ∧ w' = w := fun w => hm ▸ ref11_must w k hlt _
            generalize gb b k = c at *
            clear hfirp hresp hfk hstop hstop2 hcell h16 hs hm
            go_wp2_with (first
              | ((with_reducible refine gL_load (dst := some 30) ?_); refine ⟨_, _, rfl, loads_cell hc (on_of rfl), ?_⟩)
              | (go_at_call 30; (with_reducible refine (hcall _).mono ?_); rintro _ _ ⟨rfl, rfl⟩)
              | go_skip | ((first | (with_reducible refine gL_load ?_) | ((with_reducible refine gG_load ?_ ?_); (exact wanted_of rfl rfl rfl rfl rfl))); refine ⟨_, _, rfl, (by (first | (assumption) | (exact hM.loads_B8 (by (repeat (first | exact .head _ | apply List.Mem.tail)); done) (on_of rfl) (by first | omega | (simp only [Len] at *; omega) | (simp; omega))) | (exact hM.loads_all (by (repeat (first | exact .head _ | apply List.Mem.tail)); done) (ag_of rfl) (by first | assumption | exact Len.map (by assumption) _ | rfl | exact Len.map (by rfl) _ | exact Len.of (by simp; done))) | (exact hM.loads_one (by (repeat (first | exact .head _ | apply List.Mem.tail)); done) (on_of rfl) rfl) | (exact hM.loads_W32 (by (repeat (first | exact .head _ | apply List.Mem.tail)); done) (on_of rfl) (by first | omega | (simp only [Len] at *; omega) | (simp; omega))) | (exact loads_cell (by assumption) (on_of rfl)))), ?_⟩) | ((with_reducible refine gL_store hM ?_); refine ⟨_, _, _, rfl, rfl, (by (first | (exact hM.stores_B8 (by first | exact (rfl : B8 _ = B8 _) | exact lit8 _ (by decide)) (by (repeat (first | exact .here _ _ _ | apply Has.there)); done) (on_of rfl) (by first | omega | (simp only [Len] at *; omega) | (simp; omega))) | (exact hM.stores_all (by (repeat (first | exact .here _ _ _ | apply Has.there)); done) (ag_of rfl) (by first | assumption | exact Len.map (by assumption) _ | rfl | exact Len.map (by rfl) _ | exact Len.of (by simp; done)) (by first | assumption | exact Len.map (by assumption) _ | rfl | exact Len.map (by rfl) _ | exact Len.of (by simp; done)) (by first | exact B8_one | exact W32_one | exact one_of_all rfl)) | (exact hM.stores_W32 rfl (by (repeat (first | exact .here _ _ _ | apply Has.there)); done) (on_of rfl) (by first | omega | (simp only [Len] at *; omega) | (simp; omega))) | (exact hM.stores_one (by (repeat (first | exact .here _ _ _ | apply Has.there)); done) (on_of rfl) (by first | omega | (simp only [Len] at *; omega) | (simp; omega)) rfl rfl))), ?_⟩; intro _ hM2; clear hM; have hM := hM2; clear hM2) | ((with_reducible refine gL_alloc hM ?_); refine ⟨_, _, (zr_of rfl), ?_⟩; intro _ _ hM2; clear hM; have hM := hM2; clear hM2) | ((with_reducible refine gL_box hM ?_); refine ⟨_, _, _, rfl, rfl, (by first | assumption | exact Len.map (by assumption) _ | rfl | exact Len.map (by rfl) _ | exact Len.of (by simp; done)), ?_⟩; intro _ _ hM2; clear hM; have hM := hM2; clear hM2) | ((with_reducible refine gL_build0 ?_); refine ⟨_, _, _, _, _, _, (zr_of rfl), (ua_of rfl), (ag_of rfl), (el_of rfl), ?_⟩) | ((with_reducible refine gL_buildBytes hM ?_); refine ⟨_, _, (us_of rfl), (el_of rfl), (by decide), (by decide), rfl, (by (repeat (first | exact EvB.nil | apply EvB.cons rfl (by first | exact (rfl : B8 _ = B8 _) | exact lit8 _ (by decide)))); done), ?_⟩; intro _ _ hM2; clear hM; have hM := hM2; clear hM2) | ((with_reducible refine gL_append_B hM ?_); refine ⟨_, _, _, _, _, _, _, _, _, _, rfl, rfl, (by first | exact (rfl : Value.slice (some ⟨_, 0, none⟩) _ _ = sl (some _) _ _) | exact (rfl : Value.slice none _ _ = sl none _ _) | rfl), (us_of rfl), (el_of rfl), (by first | exact hM.src (by (repeat (first | exact .head _ | apply List.Mem.tail)); done) | exact (hM.bytes0 (by assumption)).src), (fun _ _ => by (repeat (first | exact .here _ _ _ | apply Swap.there)); done), (by first | assumption | exact Len.map (by assumption) _ | rfl | exact Len.map (by rfl) _ | exact Len.of (by simp; done)), (by first | assumption | exact Len.map (by assumption) _ | rfl | exact Len.map (by rfl) _ | exact Len.of (by simp; done)), (by first | assumption | (simp [maxLen]; done) | omega | (simp [maxLen]; omega)), (by first | omega | (simp only [Len] at *; omega) | (simp; omega)), ?_⟩; intro _ _ _ hM2 _ _; clear hM; have hM := hM2; clear hM2) | ((first | (with_reducible refine gL_field ?_) | ((with_reducible refine gG_field ?_ ?_); (exact wanted_of rfl rfl rfl rfl rfl))); refine ⟨_, _, rfl, (by (first | (exact field_one (fb_of rfl) rfl) | (exact field_agg (fa_of rfl) rfl))), ?_⟩))
            have hM3 : Mem [] w0 _ (⟨some gw, 39, wrongC 5 k, 2⟩ :: ⟨some gr, 27, imC Img.im0 (.slice none 0 0), 36⟩ :: []) := hM
            exact hM3.ret_cells rfl rfl rfl rfl (.tail _ (.head _)) (.head _) (ag_of rfl) (ag_of rfl) hzC rfl ⟨Img.im0, 5, k, none, 0, 0, hP, rfl, Len.rep 32 0, rfl, by decide, (hM3.drop.drop.addNil 5)⟩
      · have hke : k = 16 := by omega
        subst hke
        replace hresp := hresp hfk
        have hn16 := h16 hfk
        clear hfirp hfk hstop hstop2 h16
        have hB := hM.bytes0 hv
        obtain ⟨ao2, hS12, hB12, -⟩ := bytes_from (P := Tryd.prog) hB (t := 23) (us_of rfl) (by exact elOne rfl) (k := 12) (by omega)
        have hnum := ref11_number _ _ _ _ _ hB12 (by omega)
        obtain ⟨N, hN⟩ : ∃ N, N = Img.number (b.drop 12) := ⟨_, rfl⟩
        have hNlt : N < 4294967296 := by rw [hN]; exact Img.number_lt _
        rw [← hN] at hnum hresp
        clear hN
        go_wp2_with (first
          | ((with_reducible refine gL_slice (dst := some 37) ?_); refine ⟨_, hS12, ?_⟩)
          | go_skip | ((first | (with_reducible refine gL_load ?_) | ((with_reducible refine gG_load ?_ ?_); (exact wanted_of rfl rfl rfl rfl rfl))); refine ⟨_, _, rfl, (by (first | (assumption) | (exact hM.loads_B8 (by (repeat (first | exact .head _ | apply List.Mem.tail)); done) (on_of rfl) (by first | omega | (simp only [Len] at *; omega) | (simp; omega))) | (exact hM.loads_all (by (repeat (first | exact .head _ | apply List.Mem.tail)); done) (ag_of rfl) (by first | assumption | exact Len.map (by assumption) _ | rfl | exact Len.map (by rfl) _ | exact Len.of (by simp; done))) | (exact hM.loads_one (by (repeat (first | exact .head _ | apply List.Mem.tail)); done) (on_of rfl) rfl) | (exact hM.loads_W32 (by (repeat (first | exact .head _ | apply List.Mem.tail)); done) (on_of rfl) (by first | omega | (simp only [Len] at *; omega) | (simp; omega))) | (exact loads_cell (by assumption) (on_of rfl)))), ?_⟩) | ((with_reducible refine gL_store hM ?_); refine ⟨_, _, _, rfl, rfl, (by (first | (exact hM.stores_B8 (by first | exact (rfl : B8 _ = B8 _) | exact lit8 _ (by decide)) (by (repeat (first | exact .here _ _ _ | apply Has.there)); done) (on_of rfl) (by first | omega | (simp only [Len] at *; omega) | (simp; omega))) | (exact hM.stores_all (by (repeat (first | exact .here _ _ _ | apply Has.there)); done) (ag_of rfl) (by first | assumption | exact Len.map (by assumption) _ | rfl | exact Len.map (by rfl) _ | exact Len.of (by simp; done)) (by first | assumption | exact Len.map (by assumption) _ | rfl | exact Len.map (by rfl) _ | exact Len.of (by simp; done)) (by first | exact B8_one | exact W32_one | exact one_of_all rfl)) | (exact hM.stores_W32 rfl (by (repeat (first | exact .here _ _ _ | apply Has.there)); done) (on_of rfl) (by first | omega | (simp only [Len] at *; omega) | (simp; omega))) | (exact hM.stores_one (by (repeat (first | exact .here _ _ _ | apply Has.there)); done) (on_of rfl) (by first | omega | (simp only [Len] at *; omega) | (simp; omega)) rfl rfl))), ?_⟩; intro _ hM2; clear hM; have hM := hM2; clear hM2) | ((with_reducible refine gL_alloc hM ?_); refine ⟨_, _, (zr_of rfl), ?_⟩; intro _ _ hM2; clear hM; have hM := hM2; clear hM2) | ((with_reducible refine gL_box hM ?_); refine ⟨_, _, _, rfl, rfl, (by first | assumption | exact Len.map (by assumption) _ | rfl | exact Len.map (by rfl) _ | exact Len.of (by simp; done)), ?_⟩; intro _ _ hM2; clear hM; have hM := hM2; clear hM2) | ((with_reducible refine gL_build0 ?_); refine ⟨_, _, _, _, _, _, (zr_of rfl), (ua_of rfl), (ag_of rfl), (el_of rfl), ?_⟩) | ((with_reducible refine gL_buildBytes hM ?_); refine ⟨_, _, (us_of rfl), (el_of rfl), (by decide), (by decide), rfl, (by (repeat (first | exact EvB.nil | apply EvB.cons rfl (by first | exact (rfl : B8 _ = B8 _) | exact lit8 _ (by decide)))); done), ?_⟩; intro _ _ hM2; clear hM; have hM := hM2; clear hM2) | ((with_reducible refine gL_append_B hM ?_); refine ⟨_, _, _, _, _, _, _, _, _, _, rfl, rfl, (by first | exact (rfl : Value.slice (some ⟨_, 0, none⟩) _ _ = sl (some _) _ _) | exact (rfl : Value.slice none _ _ = sl none _ _) | rfl), (us_of rfl), (el_of rfl), (by first | exact hM.src (by (repeat (first | exact .head _ | apply List.Mem.tail)); done) | exact (hM.bytes0 (by assumption)).src), (fun _ _ => by (repeat (first | exact .here _ _ _ | apply Swap.there)); done), (by first | assumption | exact Len.map (by assumption) _ | rfl | exact Len.map (by rfl) _ | exact Len.of (by simp; done)), (by first | assumption | exact Len.map (by assumption) _ | rfl | exact Len.map (by rfl) _ | exact Len.of (by simp; done)), (by first | assumption | (simp [maxLen]; done) | omega | (simp [maxLen]; omega)), (by first | omega | (simp only [Len] at *; omega) | (simp; omega)), ?_⟩; intro _ _ _ hM2 _ _; clear hM; have hM := hM2; clear hM2) | ((first | (with_reducible refine gL_field ?_) | ((with_reducible refine gG_field ?_ ?_); (exact wanted_of rfl rfl rfl rfl rfl))); refine ⟨_, _, rfl, (by (first | (exact field_one (fb_of rfl) rfl) | (exact field_agg (fa_of rfl) rfl))), ?_⟩))
        refine hnum.mono ?_
        clear hnum hB12 hS12 hB
        rintro _ w1 ⟨rfl, rfl⟩
        obtain ⟨M, hMd⟩ : ∃ M, M = 16 + N := ⟨_, rfl⟩
        obtain ⟨E, hEd⟩ : ∃ E, E = N + 48 := ⟨_, rfl⟩
        have he1 : (N : Int) + 16 = (M : Int) := by omega
        have he2 : (M : Int) + 32 = (E : Int) := by omega
        have HMd : ∀ _ : Unit, M = 16 + N := fun _ => hMd
        have hEl : E ≤ 4294967400 := by omega
        have hNE : N + 48 = E := hEd.symm
        clear hMd hEd
        by_cases hlong : 524240 < N
        · have hP := hresp.trans (rest_long hlong)
          have hli : (524240 : Int) < (N : Int) := by omega
          clear hresp hcell hNE hlong
          go_wp2_with (first | go_skip | ((first | (with_reducible refine gL_load ?_) | ((with_reducible refine gG_load ?_ ?_); (exact wanted_of rfl rfl rfl rfl rfl))); refine ⟨_, _, rfl, (by (first | (assumption) | (exact hM.loads_B8 (by (repeat (first | exact .head _ | apply List.Mem.tail)); done) (on_of rfl) (by first | omega | (simp only [Len] at *; omega) | (simp; omega))) | (exact hM.loads_all (by (repeat (first | exact .head _ | apply List.Mem.tail)); done) (ag_of rfl) (by first | assumption | exact Len.map (by assumption) _ | rfl | exact Len.map (by rfl) _ | exact Len.of (by simp; done))) | (exact hM.loads_one (by (repeat (first | exact .head _ | apply List.Mem.tail)); done) (on_of rfl) rfl) | (exact hM.loads_W32 (by (repeat (first | exact .head _ | apply List.Mem.tail)); done) (on_of rfl) (by first | omega | (simp only [Len] at *; omega) | (simp; omega))) | (exact loads_cell (by assumption) (on_of rfl)))), ?_⟩) | ((with_reducible refine gL_store hM ?_); refine ⟨_, _, _, rfl, rfl, (by (first | (exact hM.stores_B8 (by first | exact (rfl : B8 _ = B8 _) | exact lit8 _ (by decide)) (by (repeat (first | exact .here _ _ _ | apply Has.there)); done) (on_of rfl) (by first | omega | (simp only [Len] at *; omega) | (simp; omega))) | (exact hM.stores_all (by (repeat (first | exact .here _ _ _ | apply Has.there)); done) (ag_of rfl) (by first | assumption | exact Len.map (by assumption) _ | rfl | exact Len.map (by rfl) _ | exact Len.of (by simp; done)) (by first | assumption | exact Len.map (by assumption) _ | rfl | exact Len.map (by rfl) _ | exact Len.of (by simp; done)) (by first | exact B8_one | exact W32_one | exact one_of_all rfl)) | (exact hM.stores_W32 rfl (by (repeat (first | exact .here _ _ _ | apply Has.there)); done) (on_of rfl) (by first | omega | (simp only [Len] at *; omega) | (simp; omega))) | (exact hM.stores_one (by (repeat (first | exact .here _ _ _ | apply Has.there)); done) (on_of rfl) (by first | omega | (simp only [Len] at *; omega) | (simp; omega)) rfl rfl))), ?_⟩; intro _ hM2; clear hM; have hM := hM2; clear hM2) | ((with_reducible refine gL_alloc hM ?_); refine ⟨_, _, (zr_of rfl), ?_⟩; intro _ _ hM2; clear hM; have hM := hM2; clear hM2) | ((with_reducible refine gL_box hM ?_); refine ⟨_, _, _, rfl, rfl, (by first | assumption | exact Len.map (by assumption) _ | rfl | exact Len.map (by rfl) _ | exact Len.of (by simp; done)), ?_⟩; intro _ _ hM2; clear hM; have hM := hM2; clear hM2) | ((with_reducible refine gL_build0 ?_); refine ⟨_, _, _, _, _, _, (zr_of rfl), (ua_of rfl), (ag_of rfl), (el_of rfl), ?_⟩) | ((with_reducible refine gL_buildBytes hM ?_); refine ⟨_, _, (us_of rfl), (el_of rfl), (by decide), (by decide), rfl, (by (repeat (first | exact EvB.nil | apply EvB.cons rfl (by first | exact (rfl : B8 _ = B8 _) | exact lit8 _ (by decide)))); done), ?_⟩; intro _ _ hM2; clear hM; have hM := hM2; clear hM2) | ((with_reducible refine gL_append_B hM ?_); refine ⟨_, _, _, _, _, _, _, _, _, _, rfl, rfl, (by first | exact (rfl : Value.slice (some ⟨_, 0, none⟩) _ _ = sl (some _) _ _) | exact (rfl : Value.slice none _ _ = sl none _ _) | rfl), (us_of rfl), (el_of rfl), (by first | exact hM.src (by (repeat (first | exact .head _ | apply List.Mem.tail)); done) | exact (hM.bytes0 (by assumption)).src), (fun _ _ => by (repeat (first | exact .here _ _ _ | apply Swap.there)); done), (by first | assumption | exact Len.map (by assumption) _ | rfl | exact Len.map (by rfl) _ | exact Len.of (by simp; done)), (by first | assumption | exact Len.map (by assumption) _ | rfl | exact Len.map (by rfl) _ | exact Len.of (by simp; done)), (by first | assumption | (simp [maxLen]; done) | omega | (simp [maxLen]; omega)), (by first | omega | (simp only [Len] at *; omega) | (simp; omega)), ?_⟩; intro _ _ _ hM2 _ _; clear hM; have hM := hM2; clear hM2) | ((first | (with_reducible refine gL_field ?_) | ((with_reducible refine gG_field ?_ ?_); (exact wanted_of rfl rfl rfl rfl rfl))); refine ⟨_, _, rfl, (by (first | (exact field_one (fb_of rfl) rfl) | (exact field_agg (fa_of rfl) rfl))), ?_⟩))
          have hM3 : Mem [] w0 _ (⟨some gw, 39, wrongC 5 12, 2⟩ :: ⟨some gr, 27, imC Img.im0 (.slice none 0 0), 36⟩ :: []) := hM
          exact hM3.ret_cells rfl rfl rfl rfl (.tail _ (.head _)) (.head _) (ag_of rfl) (ag_of rfl) hzC rfl ⟨Img.im0, 5, 12, none, 0, 0, hP, rfl, Len.rep 32 0, rfl, by decide, (hM3.drop.drop.addNil 5)⟩
        · have hli : ¬ (524240 : Int) < (N : Int) := by omega
          by_cases hshort : nb < E
          · have hP := hresp.trans (rest_short hbl2 hlong (by rw [hNE]; exact hshort))
            have hsi : (nb : Int) < (E : Int) := by omega
            clear hlong hshort hresp hcell hNE
            go_wp2_with (first | go_skip | ((first | (with_reducible refine gL_load ?_) | ((with_reducible refine gG_load ?_ ?_); (exact wanted_of rfl rfl rfl rfl rfl))); refine ⟨_, _, rfl, (by (first | (assumption) | (exact hM.loads_B8 (by (repeat (first | exact .head _ | apply List.Mem.tail)); done) (on_of rfl) (by first | omega | (simp only [Len] at *; omega) | (simp; omega))) | (exact hM.loads_all (by (repeat (first | exact .head _ | apply List.Mem.tail)); done) (ag_of rfl) (by first | assumption | exact Len.map (by assumption) _ | rfl | exact Len.map (by rfl) _ | exact Len.of (by simp; done))) | (exact hM.loads_one (by (repeat (first | exact .head _ | apply List.Mem.tail)); done) (on_of rfl) rfl) | (exact hM.loads_W32 (by (repeat (first | exact .head _ | apply List.Mem.tail)); done) (on_of rfl) (by first | omega | (simp only [Len] at *; omega) | (simp; omega))) | (exact loads_cell (by assumption) (on_of rfl)))), ?_⟩) | ((with_reducible refine gL_store hM ?_); refine ⟨_, _, _, rfl, rfl, (by (first | (exact hM.stores_B8 (by first | exact (rfl : B8 _ = B8 _) | exact lit8 _ (by decide)) (by (repeat (first | exact .here _ _ _ | apply Has.there)); done) (on_of rfl) (by first | omega | (simp only [Len] at *; omega) | (simp; omega))) | (exact hM.stores_all (by (repeat (first | exact .here _ _ _ | apply Has.there)); done) (ag_of rfl) (by first | assumption | exact Len.map (by assumption) _ | rfl | exact Len.map (by rfl) _ | exact Len.of (by simp; done)) (by first | assumption | exact Len.map (by assumption) _ | rfl | exact Len.map (by rfl) _ | exact Len.of (by simp; done)) (by first | exact B8_one | exact W32_one | exact one_of_all rfl)) | (exact hM.stores_W32 rfl (by (repeat (first | exact .here _ _ _ | apply Has.there)); done) (on_of rfl) (by first | omega | (simp only [Len] at *; omega) | (simp; omega))) | (exact hM.stores_one (by (repeat (first | exact .here _ _ _ | apply Has.there)); done) (on_of rfl) (by first | omega | (simp only [Len] at *; omega) | (simp; omega)) rfl rfl))), ?_⟩; intro _ hM2; clear hM; have hM := hM2; clear hM2) | ((with_reducible refine gL_alloc hM ?_); refine ⟨_, _, (zr_of rfl), ?_⟩; intro _ _ hM2; clear hM; have hM := hM2; clear hM2) | ((with_reducible refine gL_box hM ?_); refine ⟨_, _, _, rfl, rfl, (by first | assumption | exact Len.map (by assumption) _ | rfl | exact Len.map (by rfl) _ | exact Len.of (by simp; done)), ?_⟩; intro _ _ hM2; clear hM; have hM := hM2; clear hM2) | ((with_reducible refine gL_build0 ?_); refine ⟨_, _, _, _, _, _, (zr_of rfl), (ua_of rfl), (ag_of rfl), (el_of rfl), ?_⟩) | ((with_reducible refine gL_buildBytes hM ?_); refine ⟨_, _, (us_of rfl), (el_of rfl), (by decide), (by decide), rfl, (by (repeat (first | exact EvB.nil | apply EvB.cons rfl (by first | exact (rfl : B8 _ = B8 _) | exact lit8 _ (by decide)))); done), ?_⟩; intro _ _ hM2; clear hM; have hM := hM2; clear hM2) | ((with_reducible refine gL_append_B hM ?_); refine ⟨_, _, _, _, _, _, _, _, _, _, rfl, rfl, (by first | exact (rfl : Value.slice (some ⟨_, 0, none⟩) _ _ = sl (some _) _ _) | exact (rfl : Value.slice none _ _ = sl none _ _) | rfl), (us_of rfl), (el_of rfl), (by first | exact hM.src (by (repeat (first | exact .head _ | apply List.Mem.tail)); done) | exact (hM.bytes0 (by assumption)).src), (fun _ _ => by (repeat (first | exact .here _ _ _ | apply Swap.there)); done), (by first | assumption | exact Len.map (by assumption) _ | rfl | exact Len.map (by rfl) _ | exact Len.of (by simp; done)), (by first | assumption | exact Len.map (by assumption) _ | rfl | exact Len.map (by rfl) _ | exact Len.of (by simp; done)), (by first | assumption | (simp [maxLen]; done) | omega | (simp [maxLen]; omega)), (by first | omega | (simp only [Len] at *; omega) | (simp; omega)), ?_⟩; intro _ _ _ hM2 _ _; clear hM; have hM := hM2; clear hM2) | ((first | (with_reducible refine gL_field ?_) | ((with_reducible refine gG_field ?_ ?_); (exact wanted_of rfl rfl rfl rfl rfl))); refine ⟨_, _, rfl, (by (first | (exact field_one (fb_of rfl) rfl) | (exact field_agg (fa_of rfl) rfl))), ?_⟩))
            have hM3 : Mem [] w0 _ (⟨some gw, 39, wrongC 6 nb, 2⟩ :: ⟨some gr, 27, imC Img.im0 (.slice none 0 0), 36⟩ :: []) := hM
            exact hM3.ret_cells rfl rfl rfl rfl (.tail _ (.head _)) (.head _) (ag_of rfl) (ag_of rfl) hzC rfl ⟨Img.im0, 6, nb, none, 0, 0, hP, rfl, Len.rep 32 0, rfl, by decide, (hM3.drop.drop.addNil 5)⟩
          · have hsi : ¬ (nb : Int) < (E : Int) := by omega
            by_cases hmore : E < nb
            · have hP := hresp.trans (rest_more hbl2 hlong (by rw [hNE]; exact hshort) (by rw [hNE]; exact hmore))
              rw [hNE] at hP
              have hmi : (E : Int) < (nb : Int) := by omega
              clear hlong hshort hmore hresp hcell hNE
              go_wp2_with (first | go_skip | ((first | (with_reducible refine gL_load ?_) | ((with_reducible refine gG_load ?_ ?_); (exact wanted_of rfl rfl rfl rfl rfl))); refine ⟨_, _, rfl, (by (first | (assumption) | (exact hM.loads_B8 (by (repeat (first | exact .head _ | apply List.Mem.tail)); done) (on_of rfl) (by first | omega | (simp only [Len] at *; omega) | (simp; omega))) | (exact hM.loads_all (by (repeat (first | exact .head _ | apply List.Mem.tail)); done) (ag_of rfl) (by first | assumption | exact Len.map (by assumption) _ | rfl | exact Len.map (by rfl) _ | exact Len.of (by simp; done))) | (exact hM.loads_one (by (repeat (first | exact .head _ | apply List.Mem.tail)); done) (on_of rfl) rfl) | (exact hM.loads_W32 (by (repeat (first | exact .head _ | apply List.Mem.tail)); done) (on_of rfl) (by first | omega | (simp only [Len] at *; omega) | (simp; omega))) | (exact loads_cell (by assumption) (on_of rfl)))), ?_⟩) | ((with_reducible refine gL_store hM ?_); refine ⟨_, _, _, rfl, rfl, (by (first | (exact hM.stores_B8 (by first | exact (rfl : B8 _ = B8 _) | exact lit8 _ (by decide)) (by (repeat (first | exact .here _ _ _ | apply Has.there)); done) (on_of rfl) (by first | omega | (simp only [Len] at *; omega) | (simp; omega))) | (exact hM.stores_all (by (repeat (first | exact .here _ _ _ | apply Has.there)); done) (ag_of rfl) (by first | assumption | exact Len.map (by assumption) _ | rfl | exact Len.map (by rfl) _ | exact Len.of (by simp; done)) (by first | assumption | exact Len.map (by assumption) _ | rfl | exact Len.map (by rfl) _ | exact Len.of (by simp; done)) (by first | exact B8_one | exact W32_one | exact one_of_all rfl)) | (exact hM.stores_W32 rfl (by (repeat (first | exact .here _ _ _ | apply Has.there)); done) (on_of rfl) (by first | omega | (simp only [Len] at *; omega) | (simp; omega))) | (exact hM.stores_one (by (repeat (first | exact .here _ _ _ | apply Has.there)); done) (on_of rfl) (by first | omega | (simp only [Len] at *; omega) | (simp; omega)) rfl rfl))), ?_⟩; intro _ hM2; clear hM; have hM := hM2; clear hM2) | ((with_reducible refine gL_alloc hM ?_); refine ⟨_, _, (zr_of rfl), ?_⟩; intro _ _ hM2; clear hM; have hM := hM2; clear hM2) | ((with_reducible refine gL_box hM ?_); refine ⟨_, _, _, rfl, rfl, (by first | assumption | exact Len.map (by assumption) _ | rfl | exact Len.map (by rfl) _ | exact Len.of (by simp; done)), ?_⟩; intro _ _ hM2; clear hM; have hM := hM2; clear hM2) | ((with_reducible refine gL_build0 ?_); refine ⟨_, _, _, _, _, _, (zr_of rfl), (ua_of rfl), (ag_of rfl), (el_of rfl), ?_⟩) | ((with_reducible refine gL_buildBytes hM ?_); refine ⟨_, _, (us_of rfl), (el_of rfl), (by decide), (by decide), rfl, (by (repeat (first | exact EvB.nil | apply EvB.cons rfl (by first | exact (rfl : B8 _ = B8 _) | exact lit8 _ (by decide)))); done), ?_⟩; intro _ _ hM2; clear hM; have hM := hM2; clear hM2) | ((with_reducible refine gL_append_B hM ?_); refine ⟨_, _, _, _, _, _, _, _, _, _, rfl, rfl, (by first | exact (rfl : Value.slice (some ⟨_, 0, none⟩) _ _ = sl (some _) _ _) | exact (rfl : Value.slice none _ _ = sl none _ _) | rfl), (us_of rfl), (el_of rfl), (by first | exact hM.src (by (repeat (first | exact .head _ | apply List.Mem.tail)); done) | exact (hM.bytes0 (by assumption)).src), (fun _ _ => by (repeat (first | exact .here _ _ _ | apply Swap.there)); done), (by first | assumption | exact Len.map (by assumption) _ | rfl | exact Len.map (by rfl) _ | exact Len.of (by simp; done)), (by first | assumption | exact Len.map (by assumption) _ | rfl | exact Len.map (by rfl) _ | exact Len.of (by simp; done)), (by first | assumption | (simp [maxLen]; done) | omega | (simp [maxLen]; omega)), (by first | omega | (simp only [Len] at *; omega) | (simp; omega)), ?_⟩; intro _ _ _ hM2 _ _; clear hM; have hM := hM2; clear hM2) | ((first | (with_reducible refine gL_field ?_) | ((with_reducible refine gG_field ?_ ?_); (exact wanted_of rfl rfl rfl rfl rfl))); refine ⟨_, _, rfl, (by (first | (exact field_one (fb_of rfl) rfl) | (exact field_agg (fa_of rfl) rfl))), ?_⟩))
              have hM3 : Mem [] w0 _ (⟨some gw, 39, wrongC 7 E, 2⟩ :: ⟨some gr, 27, imC Img.im0 (.slice none 0 0), 36⟩ :: []) := hM
              exact hM3.ret_cells rfl rfl rfl rfl (.tail _ (.head _)) (.head _) (ag_of rfl) (ag_of rfl) hzC rfl ⟨Img.im0, 7, E, none, 0, 0, hP, rfl, Len.rep 32 0, rfl, by decide, (hM3.drop.drop.addNil 5)⟩
            · have hP := hresp.trans (rest_just hbl2 hlong (by rw [hNE]; exact hshort) (by rw [hNE]; exact hmore))
              have hmi : ¬ (E : Int) < (nb : Int) := by omega
              have hnbE : nb = E := by omega
              subst hnbE
              obtain ⟨p5, p6, p8, hpv⟩ : ∃ p5 p6 p8, Img.parse b = (⟨((p5 : UInt8).toNat : Int), ((p6 : UInt8).toNat : Int), ((p8 : Nat) : Int), (b.drop 16).take N, b.drop M⟩, (0, 0)) ∧ p5 = gb b 5 ∧ p6 = gb b 6 ∧ p8 = Img.number (b.drop 8) := ⟨_, _, _, by rw [HMd ()]; exact hP, rfl, rfl, rfl⟩
              obtain ⟨hP2, hp5, hp6, hp8⟩ := hpv
              have hB := hM.bytes0 hv
              obtain ⟨bb, off, rfl, -⟩ := hcell _ hB 5 (by omega)
              have hcb : ∀ w', Bytes w' (.slice (some ⟨bb, off, none⟩) nb cap0) b → ∀ k, k < nb → w'.cell? ⟨bb, off + k, none⟩ = some (B8 (gb b k)) := fun w' hb k hk => by
                obtain ⟨b2, o2, e2, h5⟩ := hcell _ hb k hk
                cases e2
                exact h5
              obtain ⟨ao8, hS8, hB8, -⟩ := bytes_from (P := Tryd.prog) hB (t := 23) (us_of rfl) (by exact elOne rfl) (k := 8) (by omega)
              have hnum8 : ∀ w', Adds w1 w' → Calls Tryd.prog 31 #[.slice ao8 (nb - 8) (cap0 - 8)] w' fun e w'' => e = .returned (.int .i64 (p8 : Int)) ∧ Below w'.heap.size w' w'' := fun w' hb => by
                rw [hp8]
                refine (ref11_number w' _ _ _ _ (hB8.adds hb) (by omega)).mono ?_
                rintro e w'' ⟨rfl, rfl⟩
                exact ⟨rfl, Below.refl _ _⟩
              have hcc : ∀ w', Adds w1 w' → w'.cell? ⟨bb, off + 5 * 1, none⟩ = some (B8 p5) ∧ w'.cell? ⟨bb, off + 6 * 1, none⟩ = some (B8 p6) := fun w' hb => by
                rw [hp5, hp6]
                exact ⟨hcb _ (hB.adds hb) 5 (by omega), hcb _ (hB.adds hb) 6 (by omega)⟩
              clear hP hcell hp5 hp6 hp8 hresp
              go_wp2_with fail
              try simp only [Act.put, List.setIfInBounds_toArray, List.set_cons_succ, List.set_cons_zero]
              refine wp_region_tail 13 (by decide) (fun c vals => ⟨#[(Value.slice (some ⟨bb, off, none⟩) nb cap0 : Value), c 1, c 2, c 3, c 4, c 5, c 6, vals 12, c 8, c 9, c 10, c 11, c 12, c 13, c 14, c 15, c 16, c 17, c 18, c 19, c 20, c 21, c 22, c 23, c 24, c 25, c 26, c 27, c 28, c 29, c 30, c 31, c 32, c 33, c 34, c 35, c 36, c 37, c 38, c 39, c 40, c 41, c 42, c 43, c 44, c 45, c 46, c 47, c 48, c 49, c 50, c 51, c 52, c 53, c 54, c 55, c 56, c 57, c 58, c 59, c 60, vals 0, vals 1, vals 2, vals 3, vals 4, vals 5, vals 6, vals 7, vals 8, vals 9, vals 10, vals 11, c 73, c 74, c 75, c 76, c 77, c 78, c 79, c 80, c 81, c 82, c 83, c 84, c 85, c 86, c 87, c 88, c 89, c 90, c 91, c 92, c 93, c 94, c 95, c 96], []⟩) (fun t => [undef, _, _, _, _, _, _, undef, _, _, _, _, _, _, _, _, _, _, _, _, _, _, _, _, _, _, _, _, _, _, _, _, _, _, _, _, _, _, _, _, _, _, _, _, _, _, _, _, _, _, _, _, _, _, _, _, _, _, _, _, _, undef, undef, undef, undef, undef, undef, undef, undef, undef, undef, undef, undef, _, _, _, _, _, _, _, _, _, _, _, _, _, _, _, _, _, _, _, _, _, _, _, _].getD t undef) (fun i => [_, _, _, _, _, _, _, _, _, _, _, _, _].getD i undef) (by kernel_rfl)
                [[], [0], [0, 1], [0, 1, 2], [], [4], [4, 5], [4, 5, 6], [], [8], [8, 9], [0, 1, 2, 3, 4, 5, 6, 7, 8, 9, 10], [], [0, 1, 2, 3, 4, 5, 6, 7, 8, 9, 10, 11, 12]] (by kernel_rfl) (by kernel_rfl) (fun _ => True) trivial
                [fun x _ => x = (Value.slice (some ⟨bb, off, none⟩) nb cap0 : Value),
                 fun x _ => x = (Value.pointer (some ⟨bb, off + 5 * 1, none⟩) : Value),
                 fun x _ => x = (B8 p5 : Value),
                 fun x _ => x = (Value.int .i64 (p5.toNat : Int) : Value),
                 fun x _ => x = (Value.slice (some ⟨bb, off, none⟩) nb cap0 : Value),
                 fun x _ => x = (Value.pointer (some ⟨bb, off + 6 * 1, none⟩) : Value),
                 fun x _ => x = (B8 p6 : Value),
                 fun x _ => x = (Value.int .i64 (p6.toNat : Int) : Value),
                 fun x _ => x = (Value.slice (some ⟨bb, off, none⟩) nb cap0 : Value),
                 fun x _ => x = (Value.slice ao8 (nb - 8) (cap0 - 8) : Value),
                 fun x _ => x = (Value.int .i64 (p8 : Int) : Value),
                 fun x _ => x = (Value.agg (imC ⟨(p5.toNat : Int), (p6.toNat : Int), (p8 : Int), [], List.replicate 32 0⟩ (Value.slice none 0 0)).toArray : Value),
                 fun (xx : Value) (ww : World) => ∃ g7, xx = .pointer (some ⟨g7, 0, none⟩) ∧ Mem [] w1 ww [⟨some g7, 27, imC Img.im0 (.slice none 0 0), 36⟩]]
                ⟨fun _ _ _ h _ => h, fun _ _ _ h _ => h, fun _ _ _ h _ => h, fun _ _ _ h _ => h, fun _ _ _ h _ => h, fun _ _ _ h _ => h, fun _ _ _ h _ => h, fun _ _ _ h _ => h, fun _ _ _ h _ => h, fun _ _ _ h _ => h, fun _ _ _ h _ => h, fun _ _ _ h _ => h, fun _ _ _ h hb => (let ⟨g7, h1, h2⟩ := h; ⟨g7, h1, h2.adds hb⟩), trivial⟩ []
                ⟨?_, ?_, ?_, ?_, ?_, ?_, ?_, ?_, ?_, ?_, ?_, ?_, ?_, trivial⟩ ?_
              · refine showA_op 0 (by intro _ _ _; kernel_rfl) rfl rfl (fun c vals w hC hD => ?_)
                clear hD
                refine makes1 (x := .tmp 0) (X := Value.slice (some ⟨bb, off, none⟩) nb cap0) (by kernel_rfl : _ = (Value.slice (some ⟨bb, off, none⟩) nb cap0 : Value)) (fun ρ rc rf q0 => ?_)
                exact makes_move (.inl rfl) q0 ⟨Adds.refl _, rfl⟩
              · refine showA_op 1 (by intro _ _ _; kernel_rfl) rfl rfl (fun c vals w hC hD => ?_)
                have h0 : vals 0 = .slice (some ⟨bb, off, none⟩) nb cap0 := hD 0 rfl
                clear hD
                refine makes1 (x := .tmp 61) (X := Value.slice (some ⟨bb, off, none⟩) nb cap0) ((by kernel_rfl : _ = vals 0).trans h0) (fun ρ rc rf q61 => ?_)
                clear h0
                exact makes_index (us_of rfl) (el_of rfl) (j := 5) (by omega) rfl q61 (rc _) ⟨Adds.refl _, rfl⟩
              · refine showA_op 2 (by intro _ _ _; kernel_rfl) rfl rfl (fun c vals w hC hD => ?_)
                have h1 : vals 1 = .pointer (some ⟨bb, off + 5 * 1, none⟩) := hD 1 rfl
                clear hD
                refine makes1 (x := .tmp 62) (X := Value.pointer (some ⟨bb, off + 5 * 1, none⟩)) ((by kernel_rfl : _ = vals 1).trans h1) (fun ρ rc rf q62 => ?_)
                clear h1
                exact makes_load (loads_cell (hcc _ hC).1 (on_of rfl)) rfl q62 ⟨Adds.refl _, rfl⟩
              · refine showA_op 3 (by intro _ _ _; kernel_rfl) rfl rfl (fun c vals w hC hD => ?_)
                have h2 : vals 2 = B8 p5 := hD 2 rfl
                clear hD
                refine makes1 (x := .tmp 63) (X := B8 p5) ((by kernel_rfl : _ = vals 2).trans h2) (fun ρ rc rf q63 => ?_)
                clear h2
                (refine makes_value (v := .int .i64 (p5.toNat : Int)) ?_ ⟨Adds.refl _, rfl⟩; go_simp)
              · refine showA_op 4 (by intro _ _ _; kernel_rfl) rfl rfl (fun c vals w hC hD => ?_)
                clear hD
                refine makes1 (x := .tmp 0) (X := Value.slice (some ⟨bb, off, none⟩) nb cap0) (by kernel_rfl : _ = (Value.slice (some ⟨bb, off, none⟩) nb cap0 : Value)) (fun ρ rc rf q0 => ?_)
                exact makes_move (.inl rfl) q0 ⟨Adds.refl _, rfl⟩
              · refine showA_op 5 (by intro _ _ _; kernel_rfl) rfl rfl (fun c vals w hC hD => ?_)
                have h4 : vals 4 = .slice (some ⟨bb, off, none⟩) nb cap0 := hD 4 rfl
                clear hD
                refine makes1 (x := .tmp 65) (X := Value.slice (some ⟨bb, off, none⟩) nb cap0) ((by kernel_rfl : _ = vals 4).trans h4) (fun ρ rc rf q65 => ?_)
                clear h4
                exact makes_index (us_of rfl) (el_of rfl) (j := 6) (by omega) rfl q65 (rc _) ⟨Adds.refl _, rfl⟩
              · refine showA_op 6 (by intro _ _ _; kernel_rfl) rfl rfl (fun c vals w hC hD => ?_)
                have h5 : vals 5 = .pointer (some ⟨bb, off + 6 * 1, none⟩) := hD 5 rfl
                clear hD
                refine makes1 (x := .tmp 66) (X := Value.pointer (some ⟨bb, off + 6 * 1, none⟩)) ((by kernel_rfl : _ = vals 5).trans h5) (fun ρ rc rf q66 => ?_)
                clear h5
                exact makes_load (loads_cell (hcc _ hC).2 (on_of rfl)) rfl q66 ⟨Adds.refl _, rfl⟩
              · refine showA_op 7 (by intro _ _ _; kernel_rfl) rfl rfl (fun c vals w hC hD => ?_)
                have h6 : vals 6 = B8 p6 := hD 6 rfl
                clear hD
                refine makes1 (x := .tmp 67) (X := B8 p6) ((by kernel_rfl : _ = vals 6).trans h6) (fun ρ rc rf q67 => ?_)
                clear h6
                (refine makes_value (v := .int .i64 (p6.toNat : Int)) ?_ ⟨Adds.refl _, rfl⟩; go_simp)
              · refine showA_op 8 (by intro _ _ _; kernel_rfl) rfl rfl (fun c vals w hC hD => ?_)
                clear hD
                refine makes1 (x := .tmp 0) (X := Value.slice (some ⟨bb, off, none⟩) nb cap0) (by kernel_rfl : _ = (Value.slice (some ⟨bb, off, none⟩) nb cap0 : Value)) (fun ρ rc rf q0 => ?_)
                exact makes_move (.inl rfl) q0 ⟨Adds.refl _, rfl⟩
              · refine showA_op 9 (by intro _ _ _; kernel_rfl) rfl rfl (fun c vals w hC hD => ?_)
                have h8 : vals 8 = .slice (some ⟨bb, off, none⟩) nb cap0 := hD 8 rfl
                clear hD
                refine makes1 (x := .tmp 69) (X := Value.slice (some ⟨bb, off, none⟩) nb cap0) ((by kernel_rfl : _ = vals 8).trans h8) (fun ρ rc rf q69 => ?_)
                clear h8
                exact makes_slice hS8 rfl q69 (congrArg some (rc _)) rfl rfl ⟨Adds.refl _, rfl⟩
              · refine showA_op 10 (by intro _ _ _; kernel_rfl) rfl rfl (fun c vals w hC hD => ?_)
                have h9 : vals 9 = .slice ao8 (nb - 8) (cap0 - 8) := hD 9 rfl
                clear hD
                refine makes1 (x := .tmp 70) (X := Value.slice ao8 (nb - 8) (cap0 - 8)) ((by kernel_rfl : _ = vals 9).trans h9) (fun ρ rc rf q70 => ?_)
                clear h9
                refine makes_call (hnum8 _ hC) ?_ (by rintro e w' ⟨rfl, hb⟩; exact ⟨_, rfl, hb, rfl⟩)
                go_simp
              · refine showA_op 11 (by intro _ _ _; kernel_rfl) rfl rfl (fun c vals w hC hD => ?_)
                have h3 : vals 3 = .int .i64 (p5.toNat : Int) := hD 3 rfl
                have h7 : vals 7 = .int .i64 (p6.toNat : Int) := hD 7 rfl
                have h10 : vals 10 = .int .i64 (p8 : Int) := hD 10 rfl
                clear hD
                refine makes3 (x := .tmp 64) (X := Value.int .i64 (p5.toNat : Int)) (y := .tmp 68) (Y := Value.int .i64 (p6.toNat : Int)) (z := .tmp 71) (Z := Value.int .i64 (p8 : Int)) ((by kernel_rfl : _ = vals 3).trans h3) ((by kernel_rfl : _ = vals 7).trans h7) ((by kernel_rfl : _ = vals 10).trans h10) (fun ρ rc rf q64 q68 q71 => ?_)
                clear h3 h7 h10
                exact makes_build1 (fun w => hbld w _ _ _) rfl (by simp only [List.map_cons, List.map_nil]; rw [q64, q68, q71]) ⟨Adds.refl _, rfl⟩
              · refine showA_op 12 (by intro _ _ _; kernel_rfl) rfl rfl (fun c vals w hC hD => ?_)
                clear hD
                refine makes0 (fun ρ rc rf => ?_)
                exact makes_alloc hz rfl (fun g w' h1 => ⟨h1.done, g, rfl, ((Mem.start _).adds hC).join h1 (by simp)⟩)
              intro vals w' hC hΦ hne
              have h11 : vals 11 = .agg (imC ⟨(p5.toNat : Int), (p6.toNat : Int), (p8 : Int), [], List.replicate 32 0⟩ (.slice none 0 0)).toArray := hΦ 11 (by decide)
              have h12 : (fun (xx : Value) (ww : World) => ∃ g7, xx = .pointer (some ⟨g7, 0, none⟩) ∧ Mem [] w1 ww [⟨some g7, 27, imC Img.im0 (.slice none 0 0), 36⟩]) (vals 12) w' := hΦ 12 (by decide)
              clear hΦ hne
              simp only [List.getD_eq_getElem?_getD, List.getElem?_cons_zero, List.getElem?_cons_succ, Option.getD_some, List.drop_succ_cons, List.drop_zero]
              simp only [h11]
              clear h11
              try simp only [tuple_undef]
              obtain ⟨g7, e7, m7⟩ := h12
              replace hM := hM.addMem m7
              simp only [List.cons_append, List.nil_append] at hM
              simp only [e7]
              clear e7 m7 hC hcc hS8 hnum8 hB8 hbld hB
              have he3 : (nb : Int) - 32 = (M : Int) := by omega
              obtain ⟨ao16, hS16, hB16⟩ := bytes_cut (P := Tryd.prog) hv (t := 23) (us_of rfl) (by exact elOne rfl) (lo := 16) (hi := M) (by rw [HMd ()]; omega) (by omega)
              rw [show M - 16 = N from by rw [HMd ()]; omega] at hS16 hB16
              have hpl : Len ((b.drop 16).take N) N := Len.of (by rw [List.length_take, List.length_drop, hbl2.eq]; omega)
              have hTl : Len (b.drop M) 32 := Len.of (by rw [List.length_drop, hbl2.eq]; omega)
              have hC1l := imC_len (x := ⟨(p5.toNat : Int), (p6.toNat : Int), (p8 : Int), [], List.replicate 32 0⟩) (Len.rep 32 0) (.slice none 0 0)
              have hC1o : ∀ v ∈ imC ⟨(p5.toNat : Int), (p6.toNat : Int), (p8 : Int), [], List.replicate 32 0⟩ (.slice none 0 0), v.oneCell' = true := one_of_all rfl
              have hset3 : ∀ v, (imC ⟨(p5.toNat : Int), (p6.toNat : Int), (p8 : Int), [], List.replicate 32 0⟩ (.slice none 0 0)).set 3 v = imC ⟨(p5.toNat : Int), (p6.toNat : Int), (p8 : Int), [], List.replicate 32 0⟩ v := fun _ => rfl
              go_wp2_with (first
                | ((with_reducible refine gL_store (x := .tmp 7) hM ?_); refine ⟨_, _, _, rfl, rfl, hM.stores_all (.here _ _ _) (ag_of rfl) hC1l hzC hC1o, ?_⟩; intro wB hM2; clear hM; have hM := hM2; clear hM2)
                | ((with_reducible refine gL_buildEmpty (dst := some 73) hM ?_); refine ⟨_, _, _, (us_of rfl), (el_of rfl), ?_⟩; intro g73 _ hM2; clear hM; have hM := hM2; clear hM2)
                | ((with_reducible refine gL_slice (dst := some 78) ?_); refine ⟨_, hS16, ?_⟩)
                | ((with_reducible refine gL_append_B (dst := some 79) hM ?_); have hx := (hM.bytes0 hB16).src; rw [hpl.eq] at hx; refine ⟨_, _, some g73, 0, 0, 5, [], (b.drop 16).take N, N, _, rfl, rfl, rfl, (us_of rfl), (el_of rfl), hx, (fun _ _ => .here _ _ _), rfl, hpl, (by decide), (by omega), ?_⟩; clear hx; intro ob1 cap1 _ hM2 h11 h12; rw [Nat.zero_add] at h11 ⊢; rw [List.nil_append] at hM2; clear hM; have hM := hM2; clear hM2)
                | ((with_reducible refine gL_store (x := .tmp 80) hM ?_); refine ⟨_, sl ob1 N cap1, _, rfl, rfl, hM.stores_one (.there _ (.here _ _ _)) (on_of rfl) (by rw [hC1l.eq]; decide) rfl rfl, ?_⟩; rw [hset3]; intro _ hM2; clear hM; have hM := hM2; clear hM2))
              clear hset3 hC1o hC1l hS16 hB16
              have hcl : ∀ T, Len T 32 → Len (imC ⟨(p5.toNat : Int), (p6.toNat : Int), (p8 : Int), [], T⟩ (sl ob1 N cap1)) 36 := fun T h => imC_len (x := ⟨(p5.toNat : Int), (p6.toNat : Int), (p8 : Int), [], T⟩) h _
              have hse : ∀ (T : List UInt8) (j : Nat) (c : UInt8), (imC ⟨(p5.toNat : Int), (p6.toNat : Int), (p8 : Int), [], T⟩ (sl ob1 N cap1)).set (4 + j) (B8 c) = imC ⟨(p5.toNat : Int), (p6.toNat : Int), (p8 : Int), [], T.set j c⟩ (sl ob1 N cap1) := fun T j c => im_set _ _ _ T _ [] j c
              obtain ⟨F, hF⟩ : ∃ F : List UInt8 → List Value, F = fun T => imC ⟨(p5.toNat : Int), (p6.toNat : Int), (p8 : Int), [], T⟩ (sl ob1 N cap1) := ⟨_, rfl⟩
              have hFe : ∀ T, imC ⟨(p5.toNat : Int), (p6.toNat : Int), (p8 : Int), [], T⟩ (sl ob1 N cap1) = F T := fun T => by rw [hF]
              have hFo : ∀ T, ∀ v ∈ F T, v.oneCell' = true := fun T => by
                rw [hF]
                intro v hv
                rcases List.mem_append.1 hv with h | h
                · simp at h
                  rcases h with rfl | rfl | rfl | rfl <;> rfl
                · obtain ⟨c, _, rfl⟩ := List.mem_map.1 h
                  rfl
              have HFE : ∀ _ : Unit, ∀ T, F T = imC ⟨(p5.toNat : Int), (p6.toNat : Int), (p8 : Int), [], T⟩ (sl ob1 N cap1) := fun _ T => by rw [hF]
              simp only [hFe] at hcl hse
              rw [hFe] at hM
              clear hF hFe
              go_loopw [9] (fun i wr => ∃ (j : Nat), j ≤ 32 ∧ i = .int .i64 j ∧ Mem [] w0 wr (⟨ob1, 5, ((b.drop 16).take N).map B8, cap1⟩ :: ⟨some g7, 27, F ((b.drop M).take j ++ List.replicate (32 - j) 0), 36⟩ :: ⟨some gw, 39, wrongC 0 0, 2⟩ :: ⟨some gr, 27, imC Img.im0 (.slice none 0 0), 36⟩ :: [])) (fun i _ => 32 - (intOf i).toNat)
              case atStart => exact ⟨0, by omega, rfl, hM⟩
              case round =>
                clear hM
                obtain ⟨j, hj, rfl, hM⟩ := hrel
                have hTj : Len ((b.drop M).take j ++ List.replicate (32 - j) 0) 32 := Len.of (by rw [List.length_append, List.length_take, hTl.eq, List.length_replicate]; omega)
                by_cases hlt : j < 32
                · have hti : (j : Int) < 32 := by omega
                  obtain ⟨q, hq⟩ : ∃ q, q = M + j := ⟨_, rfl⟩
                  have he4 : (M : Int) + (j : Int) = (q : Int) := by omega
                  have hqi : (q : Int) < (nb : Int) := by omega
                  have hcq := hcb _ (hM.bytes0 hv) q (by omega)
                  have hnx : ∀ _ : Unit, ((b.drop M).take j ++ List.replicate (32 - j) 0).set j (gb b q) = (b.drop M).take (j + 1) ++ List.replicate (32 - (j + 1)) 0 := fun _ => by rw [hq, gb_drop]; exact fill_set _ hTl.eq j hlt
                  have hlen := hcl _ hTj
                  have hse2 : ∀ _ : Unit, (F ((b.drop M).take j ++ List.replicate (32 - j) 0)).set (4 + j) (B8 (gb b q)) = F ((b.drop M).take (j + 1) ++ List.replicate (32 - (j + 1)) 0) := fun _ => by rw [hse, hnx ()]
                  obtain ⟨A, hA⟩ : ∃ A, A = F ((b.drop M).take j ++ List.replicate (32 - j) 0) := ⟨_, rfl⟩
                  rw [← hA] at hM hlen hse2
                  generalize gb b q = c at *
                  clear hcb hcl hse hnx hq hA
                  go_wp2_with (first
                    | ((with_reducible refine gL_load (dst := some 92) ?_); refine ⟨_, _, rfl, loads_cell hcq (on_of rfl), ?_⟩)
                    | ((with_reducible refine gL_store hM ?_); refine ⟨_, B8 c, _, rfl, rfl, hM.stores_one (.there _ (.here _ _ _)) (on_of rfl) (by rw [hlen.eq]; omega) rfl rfl, ?_⟩; rw [hse2 ()]; intro _ hM2; clear hM; have hM := hM2; clear hM2))
                  go_roundw
                  case rel => exact ⟨j + 1, by omega, by go_num, hM⟩
                  case measure => simp [intOf]; omega
                · have hje : j = 32 := by omega
                  subst hje
                  have ht : (b.drop M).take 32 = b.drop M := List.take_of_length_le (by rw [hTl.eq]; exact Nat.le_refl _)
                  rw [Nat.sub_self, List.replicate_zero, List.append_nil, ht] at hM
                  clear ht
                  have hlen := hcl _ hTl
                  have ho := hFo (b.drop M)
                  obtain ⟨A, hA⟩ : ∃ A, A = F (b.drop M) := ⟨_, rfl⟩
                  have HA : ∀ _ : Unit, A = imC ⟨(p5.toNat : Int), (p6.toNat : Int), (p8 : Int), (b.drop 16).take N, b.drop M⟩ (sl ob1 N cap1) := fun _ => by rw [hA, HFE ()]
                  rw [← hA] at hM hlen ho
                  clear hcb hcl hse hA hFo
                  go_wp2_with (first
                    | ((with_reducible refine gL_load (dst := some 95) ?_); refine ⟨_, _, rfl, hM.loads_all (.tail _ (.head _)) (ag_of rfl) hlen, ?_⟩)
                    | ((with_reducible refine gL_store (x := .tmp 2) hM ?_); refine ⟨_, _, _, rfl, rfl, hM.stores_all (.there _ (.there _ (.there _ (.here _ _ _)))) (ag_of rfl) hlen hzC ho, ?_⟩; intro _ hM2; clear hM; have hM := hM2; clear hM2)
                    | go_skip | ((first | (with_reducible refine gL_load ?_) | ((with_reducible refine gG_load ?_ ?_); (exact wanted_of rfl rfl rfl rfl rfl))); refine ⟨_, _, rfl, (by (first | (assumption) | (exact hM.loads_B8 (by (repeat (first | exact .head _ | apply List.Mem.tail)); done) (on_of rfl) (by first | omega | (simp only [Len] at *; omega) | (simp; omega))) | (exact hM.loads_all (by (repeat (first | exact .head _ | apply List.Mem.tail)); done) (ag_of rfl) (by first | assumption | exact Len.map (by assumption) _ | rfl | exact Len.map (by rfl) _ | exact Len.of (by simp; done))) | (exact hM.loads_one (by (repeat (first | exact .head _ | apply List.Mem.tail)); done) (on_of rfl) rfl) | (exact hM.loads_W32 (by (repeat (first | exact .head _ | apply List.Mem.tail)); done) (on_of rfl) (by first | omega | (simp only [Len] at *; omega) | (simp; omega))) | (exact loads_cell (by assumption) (on_of rfl)))), ?_⟩) | ((with_reducible refine gL_store hM ?_); refine ⟨_, _, _, rfl, rfl, (by (first | (exact hM.stores_B8 (by first | exact (rfl : B8 _ = B8 _) | exact lit8 _ (by decide)) (by (repeat (first | exact .here _ _ _ | apply Has.there)); done) (on_of rfl) (by first | omega | (simp only [Len] at *; omega) | (simp; omega))) | (exact hM.stores_all (by (repeat (first | exact .here _ _ _ | apply Has.there)); done) (ag_of rfl) (by first | assumption | exact Len.map (by assumption) _ | rfl | exact Len.map (by rfl) _ | exact Len.of (by simp; done)) (by first | assumption | exact Len.map (by assumption) _ | rfl | exact Len.map (by rfl) _ | exact Len.of (by simp; done)) (by first | exact B8_one | exact W32_one | exact one_of_all rfl)) | (exact hM.stores_W32 rfl (by (repeat (first | exact .here _ _ _ | apply Has.there)); done) (on_of rfl) (by first | omega | (simp only [Len] at *; omega) | (simp; omega))) | (exact hM.stores_one (by (repeat (first | exact .here _ _ _ | apply Has.there)); done) (on_of rfl) (by first | omega | (simp only [Len] at *; omega) | (simp; omega)) rfl rfl))), ?_⟩; intro _ hM2; clear hM; have hM := hM2; clear hM2) | ((with_reducible refine gL_alloc hM ?_); refine ⟨_, _, (zr_of rfl), ?_⟩; intro _ _ hM2; clear hM; have hM := hM2; clear hM2) | ((with_reducible refine gL_box hM ?_); refine ⟨_, _, _, rfl, rfl, (by first | assumption | exact Len.map (by assumption) _ | rfl | exact Len.map (by rfl) _ | exact Len.of (by simp; done)), ?_⟩; intro _ _ hM2; clear hM; have hM := hM2; clear hM2) | ((with_reducible refine gL_build0 ?_); refine ⟨_, _, _, _, _, _, (zr_of rfl), (ua_of rfl), (ag_of rfl), (el_of rfl), ?_⟩) | ((with_reducible refine gL_buildBytes hM ?_); refine ⟨_, _, (us_of rfl), (el_of rfl), (by decide), (by decide), rfl, (by (repeat (first | exact EvB.nil | apply EvB.cons rfl (by first | exact (rfl : B8 _ = B8 _) | exact lit8 _ (by decide)))); done), ?_⟩; intro _ _ hM2; clear hM; have hM := hM2; clear hM2) | ((with_reducible refine gL_append_B hM ?_); refine ⟨_, _, _, _, _, _, _, _, _, _, rfl, rfl, (by first | exact (rfl : Value.slice (some ⟨_, 0, none⟩) _ _ = sl (some _) _ _) | exact (rfl : Value.slice none _ _ = sl none _ _) | rfl), (us_of rfl), (el_of rfl), (by first | exact hM.src (by (repeat (first | exact .head _ | apply List.Mem.tail)); done) | exact (hM.bytes0 (by assumption)).src), (fun _ _ => by (repeat (first | exact .here _ _ _ | apply Swap.there)); done), (by first | assumption | exact Len.map (by assumption) _ | rfl | exact Len.map (by rfl) _ | exact Len.of (by simp; done)), (by first | assumption | exact Len.map (by assumption) _ | rfl | exact Len.map (by rfl) _ | exact Len.of (by simp; done)), (by first | assumption | (simp [maxLen]; done) | omega | (simp [maxLen]; omega)), (by first | omega | (simp only [Len] at *; omega) | (simp; omega)), ?_⟩; intro _ _ _ hM2 _ _; clear hM; have hM := hM2; clear hM2) | ((first | (with_reducible refine gL_field ?_) | ((with_reducible refine gG_field ?_ ?_); (exact wanted_of rfl rfl rfl rfl rfl))); refine ⟨_, _, rfl, (by (first | (exact field_one (fb_of rfl) rfl) | (exact field_agg (fa_of rfl) rfl))), ?_⟩))
                  have hM3 : Mem [] w0 _ (⟨ob1, 5, ((b.drop 16).take N).map B8, cap1⟩ :: ⟨some g7, 27, A, 36⟩ :: ⟨some gw, 39, wrongC 0 0, 2⟩ :: ⟨some gr, 27, A, 36⟩ :: []) := hM
                  exact hM3.ret_cells rfl rfl rfl rfl (.tail _ (.tail _ (.tail _ (.head _)))) (.tail _ (.tail _ (.head _))) (ag_of rfl) (ag_of rfl) hlen rfl ⟨_, 0, 0, ob1, cap1, N, hP2, hpl, hTl, by rw [HA ()]; rfl, h12, hM3.drop2.drop2.drop2⟩
end Go.Proofs.YtejmbkljnhnklaaDoor
