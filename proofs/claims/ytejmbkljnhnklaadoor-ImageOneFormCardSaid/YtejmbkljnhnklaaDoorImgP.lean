/-
  The walk of Parse.
-/
import Derived.Test.YtejmbkljnhnklaaDoorImgM
import Derived.Test.YtejmbkljnhnklaaDoorAp
import Derived.Test.YtejmbkljnhnklaaDoorIx
namespace Go.PK
open Go.RowKit
theorem Mem.join {G : List Nat} {w0 w w' : World} {L L' : List Blk} (h : Mem [] w0 w L) (k : Mem G w w' L') (hG : ∀ g ∈ G, w0.heap.size ≤ g) : Mem [] w0 w' L' :=
  ⟨h.touch.step k.touch fun g hg => .inr (hG g hg), k.holds, fun b hb g hg => .inr (by
    rcases k.own b hb g hg with h1 | h1
    · exact hG g h1
    · exact Nat.le_trans h.touch.size h1), k.nodup⟩
section
variable {P : Program} {o : Oper} {w : World} {R : Value → World → Prop} {ρ : Operand → Value}
theorem makes_alloc {ty : TypeId} {C : List Value} {n : Nat} (hz : Zr P ty C n) (ho : o.op = .alloc ty) (hR : ∀ g w', Mem [] w w' [⟨some g, ty, C, n⟩] → R (.pointer (some ⟨g, 0, none⟩)) w') : Makes P ρ o w R := by
  obtain ⟨z, hz, hC, rfl⟩ := hz
  refine makes_value2 (v := .pointer (some ⟨w.heap.size, 0, none⟩)) (w' := w.alloc (.cells C.toArray ty)) ?_ (hR _ _ ((Mem.start w).alloc C ty))
  unfold execOp
  simp only [ho, Sem.run_bind, Sem.run_pure, Result.andThen_ok, run_alloc_of hz hC]
theorem makes_build1 {ty : TypeId} {parts : List (Nat × Operand)} {vals : List (Nat × Value)} {v : Value} (h : ∀ w, (Instr.build ty vals.toArray).run P w = .ok v w) (ho : o.op = .build ty parts.toArray) (hp : (parts.map fun p => (p.1, ρ p.2)) = vals) (hR : R v w) : Makes P ρ o w R := by
  refine makes_value (v := v) ?_ hR
  unfold execOp
  simp only [ho, List.map_toArray, Sem.run_bind, Sem.run_pure, Result.andThen_ok, hp, h w]
theorem slice_three {t e n cap lo hi : Nat} (hu : P.underlying t = some (.slice e)) (he : (P.info? e).map (·.size) = some 1) {g off : Nat} (h1 : lo ≤ hi) (h2 : hi ≤ cap) :
    Sliced P t (.slice (some ⟨g, off, none⟩) n cap) (some (.int .i64 (lo : Int))) (some (.int .i64 (hi : Int))) (some (.int .i64 (hi : Int))) (.slice (some ⟨g, if hi = lo then off else off + lo, none⟩) (hi - lo) (hi - lo)) := by
  intro w
  cases hq : P.info? e with
  | none => simp [hq] at he
  | some i =>
    have hs : i.size = 1 := by simpa [hq] using he
    have hb : (Instr.sliceBounds true n cap (some (.int .i64 (lo : Int))) (some (.int .i64 (hi : Int))) (some (.int .i64 (hi : Int)))).run P w = .ok (lo, hi, hi) w := by
      simp [Instr.sliceBounds, run_sliceBound, h1, h2]
    simp only [Instr.sliceAt, Instr.slice, Sem.run_bind, run_underlying hu, Sem.run_pure, Result.andThen_ok, hb, sizeOf, typeInfo]
    simp [hq, hs]
    split <;> simp [Addr.add_lit]
end
end Go.PK
namespace Go.Proofs.YtejmbkljnhnklaaDoor
open Go.RowKit Go.PK
theorem rest_long {b : List UInt8} {n : Nat} (h : 524240 < n) : Img.rest b n = (Img.im0, (5, 12)) := if_pos h
theorem rest_short {b : List UInt8} {n nb : Nat} (hb : Len b nb) (h : ¬ 524240 < n) (k : nb < n + 48) : Img.rest b n = (Img.im0, (6, nb)) := by rw [Img.rest, if_neg h, hb.eq, if_pos k]
theorem rest_more {b : List UInt8} {n nb : Nat} (hb : Len b nb) (h : ¬ 524240 < n) (k : ¬ nb < n + 48) (j : n + 48 < nb) : Img.rest b n = (Img.im0, (7, n + 48)) := by rw [Img.rest, if_neg h, hb.eq, if_neg k, if_pos j]
theorem rest_just {b : List UInt8} {n nb : Nat} (hb : Len b nb) (h : ¬ 524240 < n) (k : ¬ nb < n + 48) (j : ¬ n + 48 < nb) : Img.rest b n = (⟨((gb b 5).toNat : Int), ((gb b 6).toNat : Int), (Img.number (b.drop 8) : Int), (b.drop 16).take n, b.drop (16 + n)⟩, (0, 0)) := by rw [Img.rest, if_neg h, hb.eq, if_neg k, if_neg j]
abbrev wrongC (c k : Nat) : List Value := [.int .i64 (c : Int), .int .i64 (k : Int)]
theorem im0_zero : Zr Tryd.prog 27 (imC Img.im0 (.slice none 0 0)) 36 := (zr_of rfl)
theorem parse_big {b : List UInt8} (h : 524288 < b.length) : Img.parse b = (Img.im0, (4, 524288)) := if_pos h
theorem parse_first {b : List UInt8} (h : ¬ 524288 < b.length) {e : Nat × Nat} (hf : Img.first b 0 16 = some e) : Img.parse b = (Img.im0, e) := by
  rw [Img.parse, if_neg h, hf]
theorem parse_rest {b : List UInt8} (h : ¬ 524288 < b.length) (hf : Img.first b 0 16 = none) : Img.parse b = Img.rest b (Img.number (b.drop 12)) := by
  rw [Img.parse, if_neg h, hf]

set_option maxRecDepth 100000 in
set_option maxHeartbeats 4000000 in
theorem image_Parse (w0 : World) (v : Value) (b : List UInt8) (hv : Bytes w0 v b) (hbl : b.length ≤ 140737488351232) :
    Calls Tryd.prog 13 #[v] w0 fun e w' =>
      (∃ x g o cap n, Img.parse b = (x, (0, 0)) ∧ Len x.pay n ∧ Len x.tag 32 ∧ e = .returned (.tuple #[.agg (imC x (.slice (some ⟨g, o, none⟩) n n)).toArray, .nilIface]) ∧ (0 < n → o = 16) ∧ n + 48 ≤ cap ∧ cap ≤ maxLen ∧ b.length = n + 48 ∧ x.pay = (b.drop 16).take n ∧ Mem [] w0 w' [⟨some g, 5, b.map B8, cap⟩]) ∨
      (∃ c k g, Img.parse b = (Img.im0, (c, k)) ∧ ¬ c = 0 ∧ e = .returned (.tuple #[.agg (imC Img.im0 (.slice none 0 0)).toArray, .iface 52 (.pointer (some ⟨g, 0, none⟩))]) ∧ Mem [] w0 w' [⟨some g, 53, wrongC c k, 2⟩]) := by
  have hM := Mem.start w0
  have hz := im0_zero
  have hzC := imC_len (x := Img.im0) (Len.rep 32 0) (.slice none 0 0)
  obtain ⟨nb, hnb⟩ : ∃ n, b.length = n := ⟨_, rfl⟩
  obtain ⟨ao, cap0, rfl, g1, g2, -⟩ := id hv
  rw [hnb] at hbl g1 hv ⊢
  have hbl2 : Len b nb := Len.of hnb
  have hbigp : 524288 < nb → Img.parse b = (Img.im0, (4, 524288)) := fun h => parse_big (by rw [hnb]; exact h)
  have hfirp : ¬ 524288 < nb → ∀ e, Img.first b 0 16 = some e → Img.parse b = (Img.im0, e) := fun h e he => parse_first (by rw [hnb]; exact h) he
  have hresp : ¬ 524288 < nb → Img.first b 0 16 = none → Img.parse b = Img.rest b (Img.number (b.drop 12)) := fun h he => parse_rest (by rw [hnb]; exact h) he
  have hb0 : ∀ (w : World) (n m : Int), (Instr.build 53 #[(0, .int .i64 n), (1, .int .i64 m)]).run Tryd.prog w = .ok (.agg #[.int .i64 n, .int .i64 m]) w := fun w n m => by kernel_rfl
  have h16 : Img.first b 0 16 = none → 16 ≤ nb := fun h => by
    rcases Nat.lt_or_ge b.length 16 with h1 | h1
    · have := Img.none_first 16 0 h b.length (by omega) (by omega)
      rw [Img.stop, if_pos rfl] at this
      cases this
    · omega
  have hbld : ∀ (w : World) (x y z : Int) (ao : Option Addr) (n c : Nat), (Instr.build 27 #[(0, .int .i64 x), (1, .int .i64 y), (2, .int .i64 z), (3, .slice ao n c)]).run Tryd.prog w = .ok (.agg (imC ⟨x, y, z, [], List.replicate 32 0⟩ (.slice ao n c)).toArray) w := fun w x y z ao n c => by kernel_rfl
  have hstop : ∀ k, k < 16 → k < nb → Img.stop b k = if Img.must k (gb b k) then none else some (5, k) := fun k _ hk => by rw [Img.stop, if_neg (by rw [hnb]; omega)]
  have hstop2 : Img.stop b nb = some (6, nb) := by rw [Img.stop, if_pos hnb.symm]
  have hcell : ∀ w, Bytes w (.slice ao nb cap0) b → ∀ k, k < nb → ∃ bb off, ao = some ⟨bb, off, none⟩ ∧ w.cell? ⟨bb, off + k, none⟩ = some (B8 (gb b k)) := fun w h k hk => by
    obtain ⟨bb, off, e, -, hc⟩ := h.at (k := k) (by rw [hnb]; exact hk)
    exact ⟨bb, off, e, hc⟩
  clear hnb
  go_enter Tryd.func13, Tryd.ntmps13
  by_cases hbig : 524288 < nb
  · have hbi : (524288 : Int) < (nb : Int) := by omega
    have hP := hbigp hbig
    clear hbigp hfirp hresp
    go_wp2_with (first
      | ((with_reducible refine gL_alloc (dst := some 2) hM ?_); refine ⟨_, _, hz, ?_⟩; intro gr _ hM2; clear hM; have hM := hM2; clear hM2)
      | ((with_reducible refine gL_box (dst := some 14) hM ?_); refine ⟨_, wrongC 4 524288, 2, rfl, rfl, rfl, ?_⟩; intro ge _ hM2; clear hM; have hM := hM2; clear hM2)
      | ((with_reducible refine gL_build0); refine ⟨_, _, _, _, _, _, hz, (ua_of rfl), (ag_of rfl), (el_of rfl), ?_⟩)
      | go_skip | ((first | (with_reducible refine gL_load ?_) | ((with_reducible refine gG_load ?_ ?_); (exact wanted_of rfl rfl rfl rfl rfl))); refine ⟨_, _, rfl, (by (first | (assumption) | (exact hM.loads_B8 (by (repeat (first | exact .head _ | apply List.Mem.tail)); done) (on_of rfl) (by first | omega | (simp only [Len] at *; omega) | (simp; omega))) | (exact hM.loads_all (by (repeat (first | exact .head _ | apply List.Mem.tail)); done) (ag_of rfl) (by first | assumption | exact Len.map (by assumption) _ | rfl | exact Len.map (by rfl) _ | exact Len.of (by simp; done))) | (exact hM.loads_one (by (repeat (first | exact .head _ | apply List.Mem.tail)); done) (on_of rfl) rfl) | (exact hM.loads_W32 (by (repeat (first | exact .head _ | apply List.Mem.tail)); done) (on_of rfl) (by first | omega | (simp only [Len] at *; omega) | (simp; omega))) | (exact loads_cell (by assumption) (on_of rfl)))), ?_⟩) | ((with_reducible refine gL_store hM ?_); refine ⟨_, _, _, rfl, rfl, (by (first | (exact hM.stores_B8 (by first | exact (rfl : B8 _ = B8 _) | exact lit8 _ (by decide)) (by (repeat (first | exact .here _ _ _ | apply Has.there)); done) (on_of rfl) (by first | omega | (simp only [Len] at *; omega) | (simp; omega))) | (exact hM.stores_all (by (repeat (first | exact .here _ _ _ | apply Has.there)); done) (ag_of rfl) (by first | assumption | exact Len.map (by assumption) _ | rfl | exact Len.map (by rfl) _ | exact Len.of (by simp; done)) (by first | assumption | exact Len.map (by assumption) _ | rfl | exact Len.map (by rfl) _ | exact Len.of (by simp; done)) (by first | exact B8_one | exact W32_one | exact one_of_all rfl)) | (exact hM.stores_W32 rfl (by (repeat (first | exact .here _ _ _ | apply Has.there)); done) (on_of rfl) (by first | omega | (simp only [Len] at *; omega) | (simp; omega))) | (exact hM.stores_one (by (repeat (first | exact .here _ _ _ | apply Has.there)); done) (on_of rfl) (by first | omega | (simp only [Len] at *; omega) | (simp; omega)) rfl rfl))), ?_⟩; intro _ hM2; clear hM; have hM := hM2; clear hM2) | ((with_reducible refine gL_alloc hM ?_); refine ⟨_, _, (zr_of rfl), ?_⟩; intro _ _ hM2; clear hM; have hM := hM2; clear hM2) | ((with_reducible refine gL_box hM ?_); refine ⟨_, _, _, rfl, rfl, (by first | assumption | exact Len.map (by assumption) _ | rfl | exact Len.map (by rfl) _ | exact Len.of (by simp; done)), ?_⟩; intro _ _ hM2; clear hM; have hM := hM2; clear hM2) | ((with_reducible refine gL_build0 ?_); refine ⟨_, _, _, _, _, _, (zr_of rfl), (ua_of rfl), (ag_of rfl), (el_of rfl), ?_⟩) | ((with_reducible refine gL_buildBytes hM ?_); refine ⟨_, _, (us_of rfl), (el_of rfl), (by decide), (by decide), rfl, (by (repeat (first | exact EvB.nil | apply EvB.cons rfl (by first | exact (rfl : B8 _ = B8 _) | exact lit8 _ (by decide)))); done), ?_⟩; intro _ _ hM2; clear hM; have hM := hM2; clear hM2) | ((with_reducible refine gL_append_B hM ?_); refine ⟨_, _, _, _, _, _, _, _, _, _, rfl, rfl, (by first | exact (rfl : Value.slice (some ⟨_, 0, none⟩) _ _ = sl (some _) _ _) | exact (rfl : Value.slice none _ _ = sl none _ _) | rfl), (us_of rfl), (el_of rfl), (by first | exact hM.src (by (repeat (first | exact .head _ | apply List.Mem.tail)); done) | exact (hM.bytes0 (by assumption)).src), (fun _ _ => by (repeat (first | exact .here _ _ _ | apply Swap.there)); done), (by first | assumption | exact Len.map (by assumption) _ | rfl | exact Len.map (by rfl) _ | exact Len.of (by simp; done)), (by first | assumption | exact Len.map (by assumption) _ | rfl | exact Len.map (by rfl) _ | exact Len.of (by simp; done)), (by first | assumption | (simp [maxLen]; done) | omega | (simp [maxLen]; omega)), (by first | omega | (simp only [Len] at *; omega) | (simp; omega)), ?_⟩; intro _ _ _ hM2 _ _; clear hM; have hM := hM2; clear hM2) | ((first | (with_reducible refine gL_field ?_) | ((with_reducible refine gG_field ?_ ?_); (exact wanted_of rfl rfl rfl rfl rfl))); refine ⟨_, _, rfl, (by (first | (exact field_one (fb_of rfl) rfl) | (exact field_agg (fa_of rfl) rfl))), ?_⟩))
    have hM3 : Mem [] w0 _ (⟨some ge, 53, wrongC 4 524288, 2⟩ :: ⟨some gr, 27, imC Img.im0 (.slice none 0 0), 36⟩ :: []) := hM
    exact hM3.ret_cell_tmp rfl rfl rfl rfl (.tail _ (.head _)) (ag_of rfl) hzC (.inr ⟨4, 524288, ge, hP, by decide, rfl, hM3.drop2⟩)
  · have hbi : ¬ (524288 : Int) < (nb : Int) := by omega
    replace hfirp := hfirp hbig
    replace hresp := hresp hbig
    clear hbigp
    go_wp2_with (first
      | ((with_reducible refine gL_alloc (dst := some 2) hM ?_); refine ⟨_, _, hz, ?_⟩; intro gr _ hM2; clear hM; have hM := hM2; clear hM2)
      | go_skip | ((first | (with_reducible refine gL_load ?_) | ((with_reducible refine gG_load ?_ ?_); (exact wanted_of rfl rfl rfl rfl rfl))); refine ⟨_, _, rfl, (by (first | (assumption) | (exact hM.loads_B8 (by (repeat (first | exact .head _ | apply List.Mem.tail)); done) (on_of rfl) (by first | omega | (simp only [Len] at *; omega) | (simp; omega))) | (exact hM.loads_all (by (repeat (first | exact .head _ | apply List.Mem.tail)); done) (ag_of rfl) (by first | assumption | exact Len.map (by assumption) _ | rfl | exact Len.map (by rfl) _ | exact Len.of (by simp; done))) | (exact hM.loads_one (by (repeat (first | exact .head _ | apply List.Mem.tail)); done) (on_of rfl) rfl) | (exact hM.loads_W32 (by (repeat (first | exact .head _ | apply List.Mem.tail)); done) (on_of rfl) (by first | omega | (simp only [Len] at *; omega) | (simp; omega))) | (exact loads_cell (by assumption) (on_of rfl)))), ?_⟩) | ((with_reducible refine gL_store hM ?_); refine ⟨_, _, _, rfl, rfl, (by (first | (exact hM.stores_B8 (by first | exact (rfl : B8 _ = B8 _) | exact lit8 _ (by decide)) (by (repeat (first | exact .here _ _ _ | apply Has.there)); done) (on_of rfl) (by first | omega | (simp only [Len] at *; omega) | (simp; omega))) | (exact hM.stores_all (by (repeat (first | exact .here _ _ _ | apply Has.there)); done) (ag_of rfl) (by first | assumption | exact Len.map (by assumption) _ | rfl | exact Len.map (by rfl) _ | exact Len.of (by simp; done)) (by first | assumption | exact Len.map (by assumption) _ | rfl | exact Len.map (by rfl) _ | exact Len.of (by simp; done)) (by first | exact B8_one | exact W32_one | exact one_of_all rfl)) | (exact hM.stores_W32 rfl (by (repeat (first | exact .here _ _ _ | apply Has.there)); done) (on_of rfl) (by first | omega | (simp only [Len] at *; omega) | (simp; omega))) | (exact hM.stores_one (by (repeat (first | exact .here _ _ _ | apply Has.there)); done) (on_of rfl) (by first | omega | (simp only [Len] at *; omega) | (simp; omega)) rfl rfl))), ?_⟩; intro _ hM2; clear hM; have hM := hM2; clear hM2) | ((with_reducible refine gL_alloc hM ?_); refine ⟨_, _, (zr_of rfl), ?_⟩; intro _ _ hM2; clear hM; have hM := hM2; clear hM2) | ((with_reducible refine gL_box hM ?_); refine ⟨_, _, _, rfl, rfl, (by first | assumption | exact Len.map (by assumption) _ | rfl | exact Len.map (by rfl) _ | exact Len.of (by simp; done)), ?_⟩; intro _ _ hM2; clear hM; have hM := hM2; clear hM2) | ((with_reducible refine gL_build0 ?_); refine ⟨_, _, _, _, _, _, (zr_of rfl), (ua_of rfl), (ag_of rfl), (el_of rfl), ?_⟩) | ((with_reducible refine gL_buildBytes hM ?_); refine ⟨_, _, (us_of rfl), (el_of rfl), (by decide), (by decide), rfl, (by (repeat (first | exact EvB.nil | apply EvB.cons rfl (by first | exact (rfl : B8 _ = B8 _) | exact lit8 _ (by decide)))); done), ?_⟩; intro _ _ hM2; clear hM; have hM := hM2; clear hM2) | ((with_reducible refine gL_append_B hM ?_); refine ⟨_, _, _, _, _, _, _, _, _, _, rfl, rfl, (by first | exact (rfl : Value.slice (some ⟨_, 0, none⟩) _ _ = sl (some _) _ _) | exact (rfl : Value.slice none _ _ = sl none _ _) | rfl), (us_of rfl), (el_of rfl), (by first | exact hM.src (by (repeat (first | exact .head _ | apply List.Mem.tail)); done) | exact (hM.bytes0 (by assumption)).src), (fun _ _ => by (repeat (first | exact .here _ _ _ | apply Swap.there)); done), (by first | assumption | exact Len.map (by assumption) _ | rfl | exact Len.map (by rfl) _ | exact Len.of (by simp; done)), (by first | assumption | exact Len.map (by assumption) _ | rfl | exact Len.map (by rfl) _ | exact Len.of (by simp; done)), (by first | assumption | (simp [maxLen]; done) | omega | (simp [maxLen]; omega)), (by first | omega | (simp only [Len] at *; omega) | (simp; omega)), ?_⟩; intro _ _ _ hM2 _ _; clear hM; have hM := hM2; clear hM2) | ((first | (with_reducible refine gL_field ?_) | ((with_reducible refine gG_field ?_ ?_); (exact wanted_of rfl rfl rfl rfl rfl))); refine ⟨_, _, rfl, (by (first | (exact field_one (fb_of rfl) rfl) | (exact field_agg (fa_of rfl) rfl))), ?_⟩))
    go_loopw [4, 16] (fun _ i wr => ∃ (k : Nat), k ≤ 16 ∧ k ≤ nb ∧ i = .int .i64 k ∧ Img.first b 0 16 = Img.first b k (16 - k) ∧ Mem [] w0 wr (⟨some gr, 27, imC Img.im0 (.slice none 0 0), 36⟩ :: [])) (fun _ i _ => 16 - (intOf i).toNat)
    case atStart => exact ⟨0, by omega, by omega, rfl, rfl, hM⟩
    case round =>
      clear hM
      obtain ⟨k, hk, hkn, rfl, hfk, hM⟩ := hrel
      by_cases hlt : k < 16
      · have hti : (k : Int) < 16 := by omega
        by_cases hend : k = nb
        · subst hend
          have hP := hfirp (6, k) (by rw [hfk, show 16 - k = (15 - k) + 1 from by omega]; exact Img.first_end hstop2)
          clear hfirp hresp hfk hstop hstop2 hcell h16
          go_wp2_with (first
            | ((with_reducible refine gL_box (dst := some 27) hM ?_); refine ⟨_, [.int .i64 6, .int .i64 (k : Int)], 2, rfl, rfl, rfl, ?_⟩; intro ge _ hM2; clear hM; have hM := hM2; clear hM2)
            | go_skip | ((first | (with_reducible refine gL_load ?_) | ((with_reducible refine gG_load ?_ ?_); (exact wanted_of rfl rfl rfl rfl rfl))); refine ⟨_, _, rfl, (by (first | (assumption) | (exact hM.loads_B8 (by (repeat (first | exact .head _ | apply List.Mem.tail)); done) (on_of rfl) (by first | omega | (simp only [Len] at *; omega) | (simp; omega))) | (exact hM.loads_all (by (repeat (first | exact .head _ | apply List.Mem.tail)); done) (ag_of rfl) (by first | assumption | exact Len.map (by assumption) _ | rfl | exact Len.map (by rfl) _ | exact Len.of (by simp; done))) | (exact hM.loads_one (by (repeat (first | exact .head _ | apply List.Mem.tail)); done) (on_of rfl) rfl) | (exact hM.loads_W32 (by (repeat (first | exact .head _ | apply List.Mem.tail)); done) (on_of rfl) (by first | omega | (simp only [Len] at *; omega) | (simp; omega))) | (exact loads_cell (by assumption) (on_of rfl)))), ?_⟩) | ((with_reducible refine gL_store hM ?_); refine ⟨_, _, _, rfl, rfl, (by (first | (exact hM.stores_B8 (by first | exact (rfl : B8 _ = B8 _) | exact lit8 _ (by decide)) (by (repeat (first | exact .here _ _ _ | apply Has.there)); done) (on_of rfl) (by first | omega | (simp only [Len] at *; omega) | (simp; omega))) | (exact hM.stores_all (by (repeat (first | exact .here _ _ _ | apply Has.there)); done) (ag_of rfl) (by first | assumption | exact Len.map (by assumption) _ | rfl | exact Len.map (by rfl) _ | exact Len.of (by simp; done)) (by first | assumption | exact Len.map (by assumption) _ | rfl | exact Len.map (by rfl) _ | exact Len.of (by simp; done)) (by first | exact B8_one | exact W32_one | exact one_of_all rfl)) | (exact hM.stores_W32 rfl (by (repeat (first | exact .here _ _ _ | apply Has.there)); done) (on_of rfl) (by first | omega | (simp only [Len] at *; omega) | (simp; omega))) | (exact hM.stores_one (by (repeat (first | exact .here _ _ _ | apply Has.there)); done) (on_of rfl) (by first | omega | (simp only [Len] at *; omega) | (simp; omega)) rfl rfl))), ?_⟩; intro _ hM2; clear hM; have hM := hM2; clear hM2) | ((with_reducible refine gL_alloc hM ?_); refine ⟨_, _, (zr_of rfl), ?_⟩; intro _ _ hM2; clear hM; have hM := hM2; clear hM2) | ((with_reducible refine gL_box hM ?_); refine ⟨_, _, _, rfl, rfl, (by first | assumption | exact Len.map (by assumption) _ | rfl | exact Len.map (by rfl) _ | exact Len.of (by simp; done)), ?_⟩; intro _ _ hM2; clear hM; have hM := hM2; clear hM2) | ((with_reducible refine gL_build0 ?_); refine ⟨_, _, _, _, _, _, (zr_of rfl), (ua_of rfl), (ag_of rfl), (el_of rfl), ?_⟩) | ((with_reducible refine gL_buildBytes hM ?_); refine ⟨_, _, (us_of rfl), (el_of rfl), (by decide), (by decide), rfl, (by (repeat (first | exact EvB.nil | apply EvB.cons rfl (by first | exact (rfl : B8 _ = B8 _) | exact lit8 _ (by decide)))); done), ?_⟩; intro _ _ hM2; clear hM; have hM := hM2; clear hM2) | ((with_reducible refine gL_append_B hM ?_); refine ⟨_, _, _, _, _, _, _, _, _, _, rfl, rfl, (by first | exact (rfl : Value.slice (some ⟨_, 0, none⟩) _ _ = sl (some _) _ _) | exact (rfl : Value.slice none _ _ = sl none _ _) | rfl), (us_of rfl), (el_of rfl), (by first | exact hM.src (by (repeat (first | exact .head _ | apply List.Mem.tail)); done) | exact (hM.bytes0 (by assumption)).src), (fun _ _ => by (repeat (first | exact .here _ _ _ | apply Swap.there)); done), (by first | assumption | exact Len.map (by assumption) _ | rfl | exact Len.map (by rfl) _ | exact Len.of (by simp; done)), (by first | assumption | exact Len.map (by assumption) _ | rfl | exact Len.map (by rfl) _ | exact Len.of (by simp; done)), (by first | assumption | (simp [maxLen]; done) | omega | (simp [maxLen]; omega)), (by first | omega | (simp only [Len] at *; omega) | (simp; omega)), ?_⟩; intro _ _ _ hM2 _ _; clear hM; have hM := hM2; clear hM2) | ((first | (with_reducible refine gL_field ?_) | ((with_reducible refine gG_field ?_ ?_); (exact wanted_of rfl rfl rfl rfl rfl))); refine ⟨_, _, rfl, (by (first | (exact field_one (fb_of rfl) rfl) | (exact field_agg (fa_of rfl) rfl))), ?_⟩))
          have hM3 : Mem [] w0 _ (⟨some ge, 53, wrongC 6 k, 2⟩ :: ⟨some gr, 27, imC Img.im0 (.slice none 0 0), 36⟩ :: []) := hM
          exact hM3.ret_cell_tmp rfl rfl rfl rfl (.tail _ (.head _)) (ag_of rfl) hzC (.inr ⟨6, k, ge, hP, by decide, rfl, hM3.drop2⟩)
        · have hkl : k < nb := by omega
          have hki : (k : Int) < (nb : Int) := by omega
          have hne : ¬ (k : Int) = (nb : Int) := by omega
          obtain ⟨bb, off, rfl, hc⟩ := hcell _ (hM.bytes0 hv) k hkl
          have hs := hstop k hlt hkl
          by_cases hm : Img.must k (gb b k) = true
          · rw [if_pos hm] at hs
            have hf2 : Img.first b 0 16 = Img.first b (k + 1) (16 - (k + 1)) := by rw [hfk, show 16 - k = (16 - (k + 1)) + 1 from by omega]; exact Img.first_step hs
            have hcall : ∀ w, Calls Tryd.prog 28 #[.int .i64 (k : Int), B8 (gb b k)] w fun e w' => e = .returned (.bool true) ∧ w' = w := fun w => hm ▸ image_may w k hlt _
            generalize gb b k = c at *
            clear hfirp hresp hfk hstop hstop2 hcell h16 hs hm
            go_wp2_with (first
              | ((with_reducible refine gL_load (dst := some 34) ?_); refine ⟨_, _, rfl, loads_cell hc (on_of rfl), ?_⟩)
              | (go_at_call 28; (with_reducible refine (hcall _).mono ?_); rintro _ _ ⟨rfl, rfl⟩))
            go_roundw
            case rel => exact ⟨k + 1, by omega, by omega, by go_num, hf2, hM⟩
            case measure => simp [intOf]; omega
          · replace hm : Img.must k (gb b k) = false := by simpa using hm
            rw [hm] at hs
            have hP := hfirp (5, k) (by rw [hfk, show 16 - k = (15 - k) + 1 from by omega]; exact Img.first_end hs)
            have hcall : ∀ w, Calls Tryd.prog 28 #[.int .i64 (k : Int), B8 (gb b k)] w fun e w' => e = .returned (.bool false) ∧ w' = w := fun w => hm ▸ image_may w k hlt _
            generalize gb b k = c at *
            clear hfirp hresp hfk hstop hstop2 hcell h16 hs hm
            go_wp2_with (first
              | ((with_reducible refine gL_load (dst := some 34) ?_); refine ⟨_, _, rfl, loads_cell hc (on_of rfl), ?_⟩)
              | (go_at_call 28; (with_reducible refine (hcall _).mono ?_); rintro _ _ ⟨rfl, rfl⟩)
              | ((with_reducible refine gL_box (dst := some 40) hM ?_); refine ⟨_, [.int .i64 5, .int .i64 (k : Int)], 2, rfl, rfl, rfl, ?_⟩; intro ge _ hM2; clear hM; have hM := hM2; clear hM2)
              | go_skip | ((first | (with_reducible refine gL_load ?_) | ((with_reducible refine gG_load ?_ ?_); (exact wanted_of rfl rfl rfl rfl rfl))); refine ⟨_, _, rfl, (by (first | (assumption) | (exact hM.loads_B8 (by (repeat (first | exact .head _ | apply List.Mem.tail)); done) (on_of rfl) (by first | omega | (simp only [Len] at *; omega) | (simp; omega))) | (exact hM.loads_all (by (repeat (first | exact .head _ | apply List.Mem.tail)); done) (ag_of rfl) (by first | assumption | exact Len.map (by assumption) _ | rfl | exact Len.map (by rfl) _ | exact Len.of (by simp; done))) | (exact hM.loads_one (by (repeat (first | exact .head _ | apply List.Mem.tail)); done) (on_of rfl) rfl) | (exact hM.loads_W32 (by (repeat (first | exact .head _ | apply List.Mem.tail)); done) (on_of rfl) (by first | omega | (simp only [Len] at *; omega) | (simp; omega))) | (exact loads_cell (by assumption) (on_of rfl)))), ?_⟩) | ((with_reducible refine gL_store hM ?_); refine ⟨_, _, _, rfl, rfl, (by (first | (exact hM.stores_B8 (by first | exact (rfl : B8 _ = B8 _) | exact lit8 _ (by decide)) (by (repeat (first | exact .here _ _ _ | apply Has.there)); done) (on_of rfl) (by first | omega | (simp only [Len] at *; omega) | (simp; omega))) | (exact hM.stores_all (by (repeat (first | exact .here _ _ _ | apply Has.there)); done) (ag_of rfl) (by first | assumption | exact Len.map (by assumption) _ | rfl | exact Len.map (by rfl) _ | exact Len.of (by simp; done)) (by first | assumption | exact Len.map (by assumption) _ | rfl | exact Len.map (by rfl) _ | exact Len.of (by simp; done)) (by first | exact B8_one | exact W32_one | exact one_of_all rfl)) | (exact hM.stores_W32 rfl (by (repeat (first | exact .here _ _ _ | apply Has.there)); done) (on_of rfl) (by first | omega | (simp only [Len] at *; omega) | (simp; omega))) | (exact hM.stores_one (by (repeat (first | exact .here _ _ _ | apply Has.there)); done) (on_of rfl) (by first | omega | (simp only [Len] at *; omega) | (simp; omega)) rfl rfl))), ?_⟩; intro _ hM2; clear hM; have hM := hM2; clear hM2) | ((with_reducible refine gL_alloc hM ?_); refine ⟨_, _, (zr_of rfl), ?_⟩; intro _ _ hM2; clear hM; have hM := hM2; clear hM2) | ((with_reducible refine gL_box hM ?_); refine ⟨_, _, _, rfl, rfl, (by first | assumption | exact Len.map (by assumption) _ | rfl | exact Len.map (by rfl) _ | exact Len.of (by simp; done)), ?_⟩; intro _ _ hM2; clear hM; have hM := hM2; clear hM2) | ((with_reducible refine gL_build0 ?_); refine ⟨_, _, _, _, _, _, (zr_of rfl), (ua_of rfl), (ag_of rfl), (el_of rfl), ?_⟩) | ((with_reducible refine gL_buildBytes hM ?_); refine ⟨_, _, (us_of rfl), (el_of rfl), (by decide), (by decide), rfl, (by (repeat (first | exact EvB.nil | apply EvB.cons rfl (by first | exact (rfl : B8 _ = B8 _) | exact lit8 _ (by decide)))); done), ?_⟩; intro _ _ hM2; clear hM; have hM := hM2; clear hM2) | ((with_reducible refine gL_append_B hM ?_); refine ⟨_, _, _, _, _, _, _, _, _, _, rfl, rfl, (by first | exact (rfl : Value.slice (some ⟨_, 0, none⟩) _ _ = sl (some _) _ _) | exact (rfl : Value.slice none _ _ = sl none _ _) | rfl), (us_of rfl), (el_of rfl), (by first | exact hM.src (by (repeat (first | exact .head _ | apply List.Mem.tail)); done) | exact (hM.bytes0 (by assumption)).src), (fun _ _ => by (repeat (first | exact .here _ _ _ | apply Swap.there)); done), (by first | assumption | exact Len.map (by assumption) _ | rfl | exact Len.map (by rfl) _ | exact Len.of (by simp; done)), (by first | assumption | exact Len.map (by assumption) _ | rfl | exact Len.map (by rfl) _ | exact Len.of (by simp; done)), (by first | assumption | (simp [maxLen]; done) | omega | (simp [maxLen]; omega)), (by first | omega | (simp only [Len] at *; omega) | (simp; omega)), ?_⟩; intro _ _ _ hM2 _ _; clear hM; have hM := hM2; clear hM2) | ((first | (with_reducible refine gL_field ?_) | ((with_reducible refine gG_field ?_ ?_); (exact wanted_of rfl rfl rfl rfl rfl))); refine ⟨_, _, rfl, (by (first | (exact field_one (fb_of rfl) rfl) | (exact field_agg (fa_of rfl) rfl))), ?_⟩))
            have hM3 : Mem [] w0 _ (⟨some ge, 53, wrongC 5 k, 2⟩ :: ⟨some gr, 27, imC Img.im0 (.slice none 0 0), 36⟩ :: []) := hM
            exact hM3.ret_cell_tmp rfl rfl rfl rfl (.tail _ (.head _)) (ag_of rfl) hzC (.inr ⟨5, k, ge, hP, by decide, rfl, hM3.drop2⟩)
      · have hke : k = 16 := by omega
        subst hke
        replace hresp := hresp hfk
        have hn16 := h16 hfk
        clear hfirp hfk hstop hstop2 h16
        have hB := hM.bytes0 hv
        obtain ⟨ao2, hS12, hB12, -⟩ := bytes_from (P := Tryd.prog) hB (t := 23) (us_of rfl) (by exact elOne rfl) (k := 12) (by omega)
        have hnum := image_number _ _ _ _ _ hB12 (by omega)
        obtain ⟨N, hN⟩ : ∃ N, N = Img.number (b.drop 12) := ⟨_, rfl⟩
        have hNlt : N < 4294967296 := by rw [hN]; exact Img.number_lt _
        rw [← hN] at hnum hresp
        clear hN
        go_wp2_with (first
          | ((with_reducible refine gL_slice (dst := some 44) ?_); refine ⟨_, hS12, ?_⟩)
          | go_skip | ((first | (with_reducible refine gL_load ?_) | ((with_reducible refine gG_load ?_ ?_); (exact wanted_of rfl rfl rfl rfl rfl))); refine ⟨_, _, rfl, (by (first | (assumption) | (exact hM.loads_B8 (by (repeat (first | exact .head _ | apply List.Mem.tail)); done) (on_of rfl) (by first | omega | (simp only [Len] at *; omega) | (simp; omega))) | (exact hM.loads_all (by (repeat (first | exact .head _ | apply List.Mem.tail)); done) (ag_of rfl) (by first | assumption | exact Len.map (by assumption) _ | rfl | exact Len.map (by rfl) _ | exact Len.of (by simp; done))) | (exact hM.loads_one (by (repeat (first | exact .head _ | apply List.Mem.tail)); done) (on_of rfl) rfl) | (exact hM.loads_W32 (by (repeat (first | exact .head _ | apply List.Mem.tail)); done) (on_of rfl) (by first | omega | (simp only [Len] at *; omega) | (simp; omega))) | (exact loads_cell (by assumption) (on_of rfl)))), ?_⟩) | ((with_reducible refine gL_store hM ?_); refine ⟨_, _, _, rfl, rfl, (by (first | (exact hM.stores_B8 (by first | exact (rfl : B8 _ = B8 _) | exact lit8 _ (by decide)) (by (repeat (first | exact .here _ _ _ | apply Has.there)); done) (on_of rfl) (by first | omega | (simp only [Len] at *; omega) | (simp; omega))) | (exact hM.stores_all (by (repeat (first | exact .here _ _ _ | apply Has.there)); done) (ag_of rfl) (by first | assumption | exact Len.map (by assumption) _ | rfl | exact Len.map (by rfl) _ | exact Len.of (by simp; done)) (by first | assumption | exact Len.map (by assumption) _ | rfl | exact Len.map (by rfl) _ | exact Len.of (by simp; done)) (by first | exact B8_one | exact W32_one | exact one_of_all rfl)) | (exact hM.stores_W32 rfl (by (repeat (first | exact .here _ _ _ | apply Has.there)); done) (on_of rfl) (by first | omega | (simp only [Len] at *; omega) | (simp; omega))) | (exact hM.stores_one (by (repeat (first | exact .here _ _ _ | apply Has.there)); done) (on_of rfl) (by first | omega | (simp only [Len] at *; omega) | (simp; omega)) rfl rfl))), ?_⟩; intro _ hM2; clear hM; have hM := hM2; clear hM2) | ((with_reducible refine gL_alloc hM ?_); refine ⟨_, _, (zr_of rfl), ?_⟩; intro _ _ hM2; clear hM; have hM := hM2; clear hM2) | ((with_reducible refine gL_box hM ?_); refine ⟨_, _, _, rfl, rfl, (by first | assumption | exact Len.map (by assumption) _ | rfl | exact Len.map (by rfl) _ | exact Len.of (by simp; done)), ?_⟩; intro _ _ hM2; clear hM; have hM := hM2; clear hM2) | ((with_reducible refine gL_build0 ?_); refine ⟨_, _, _, _, _, _, (zr_of rfl), (ua_of rfl), (ag_of rfl), (el_of rfl), ?_⟩) | ((with_reducible refine gL_buildBytes hM ?_); refine ⟨_, _, (us_of rfl), (el_of rfl), (by decide), (by decide), rfl, (by (repeat (first | exact EvB.nil | apply EvB.cons rfl (by first | exact (rfl : B8 _ = B8 _) | exact lit8 _ (by decide)))); done), ?_⟩; intro _ _ hM2; clear hM; have hM := hM2; clear hM2) | ((with_reducible refine gL_append_B hM ?_); refine ⟨_, _, _, _, _, _, _, _, _, _, rfl, rfl, (by first | exact (rfl : Value.slice (some ⟨_, 0, none⟩) _ _ = sl (some _) _ _) | exact (rfl : Value.slice none _ _ = sl none _ _) | rfl), (us_of rfl), (el_of rfl), (by first | exact hM.src (by (repeat (first | exact .head _ | apply List.Mem.tail)); done) | exact (hM.bytes0 (by assumption)).src), (fun _ _ => by (repeat (first | exact .here _ _ _ | apply Swap.there)); done), (by first | assumption | exact Len.map (by assumption) _ | rfl | exact Len.map (by rfl) _ | exact Len.of (by simp; done)), (by first | assumption | exact Len.map (by assumption) _ | rfl | exact Len.map (by rfl) _ | exact Len.of (by simp; done)), (by first | assumption | (simp [maxLen]; done) | omega | (simp [maxLen]; omega)), (by first | omega | (simp only [Len] at *; omega) | (simp; omega)), ?_⟩; intro _ _ _ hM2 _ _; clear hM; have hM := hM2; clear hM2) | ((first | (with_reducible refine gL_field ?_) | ((with_reducible refine gG_field ?_ ?_); (exact wanted_of rfl rfl rfl rfl rfl))); refine ⟨_, _, rfl, (by (first | (exact field_one (fb_of rfl) rfl) | (exact field_agg (fa_of rfl) rfl))), ?_⟩))
        refine hnum.mono ?_
        clear hnum hB12 hS12 hB
        rintro _ w1 ⟨rfl, B1⟩
        replace hM := hM.adds B1
        clear B1
        obtain ⟨M, hMd⟩ : ∃ M, M = 16 + N := ⟨_, rfl⟩
        obtain ⟨E, hEd⟩ : ∃ E, E = N + 48 := ⟨_, rfl⟩
        have he1 : 16 + (N : Int) = (M : Int) := by omega
        have he2 : (M : Int) + 32 = (E : Int) := by omega
        have HMd : ∀ _ : Unit, M = 16 + N := fun _ => hMd
        have HEd : ∀ _ : Unit, E = N + 48 := fun _ => hEd
        have hEl : E ≤ 4294967400 := by omega
        have hNE : N + 48 = E := hEd.symm
        have hlo : 524240 < N ↔ 524288 < E := by omega
        clear hMd hEd
        by_cases hlong : 524240 < N
        · have hP := hresp.trans (rest_long hlong)
          have hli : (524288 : Int) < (E : Int) := by have := hlo.1 hlong; omega
          clear hlo hresp hcell hNE
          go_wp2_with (first
            | ((with_reducible refine gL_box (dst := some 54) hM ?_); refine ⟨_, [.int .i64 5, .int .i64 12], 2, rfl, rfl, rfl, ?_⟩; intro ge _ hM2; clear hM; have hM := hM2; clear hM2)
            | go_skip | ((first | (with_reducible refine gL_load ?_) | ((with_reducible refine gG_load ?_ ?_); (exact wanted_of rfl rfl rfl rfl rfl))); refine ⟨_, _, rfl, (by (first | (assumption) | (exact hM.loads_B8 (by (repeat (first | exact .head _ | apply List.Mem.tail)); done) (on_of rfl) (by first | omega | (simp only [Len] at *; omega) | (simp; omega))) | (exact hM.loads_all (by (repeat (first | exact .head _ | apply List.Mem.tail)); done) (ag_of rfl) (by first | assumption | exact Len.map (by assumption) _ | rfl | exact Len.map (by rfl) _ | exact Len.of (by simp; done))) | (exact hM.loads_one (by (repeat (first | exact .head _ | apply List.Mem.tail)); done) (on_of rfl) rfl) | (exact hM.loads_W32 (by (repeat (first | exact .head _ | apply List.Mem.tail)); done) (on_of rfl) (by first | omega | (simp only [Len] at *; omega) | (simp; omega))) | (exact loads_cell (by assumption) (on_of rfl)))), ?_⟩) | ((with_reducible refine gL_store hM ?_); refine ⟨_, _, _, rfl, rfl, (by (first | (exact hM.stores_B8 (by first | exact (rfl : B8 _ = B8 _) | exact lit8 _ (by decide)) (by (repeat (first | exact .here _ _ _ | apply Has.there)); done) (on_of rfl) (by first | omega | (simp only [Len] at *; omega) | (simp; omega))) | (exact hM.stores_all (by (repeat (first | exact .here _ _ _ | apply Has.there)); done) (ag_of rfl) (by first | assumption | exact Len.map (by assumption) _ | rfl | exact Len.map (by rfl) _ | exact Len.of (by simp; done)) (by first | assumption | exact Len.map (by assumption) _ | rfl | exact Len.map (by rfl) _ | exact Len.of (by simp; done)) (by first | exact B8_one | exact W32_one | exact one_of_all rfl)) | (exact hM.stores_W32 rfl (by (repeat (first | exact .here _ _ _ | apply Has.there)); done) (on_of rfl) (by first | omega | (simp only [Len] at *; omega) | (simp; omega))) | (exact hM.stores_one (by (repeat (first | exact .here _ _ _ | apply Has.there)); done) (on_of rfl) (by first | omega | (simp only [Len] at *; omega) | (simp; omega)) rfl rfl))), ?_⟩; intro _ hM2; clear hM; have hM := hM2; clear hM2) | ((with_reducible refine gL_alloc hM ?_); refine ⟨_, _, (zr_of rfl), ?_⟩; intro _ _ hM2; clear hM; have hM := hM2; clear hM2) | ((with_reducible refine gL_box hM ?_); refine ⟨_, _, _, rfl, rfl, (by first | assumption | exact Len.map (by assumption) _ | rfl | exact Len.map (by rfl) _ | exact Len.of (by simp; done)), ?_⟩; intro _ _ hM2; clear hM; have hM := hM2; clear hM2) | ((with_reducible refine gL_build0 ?_); refine ⟨_, _, _, _, _, _, (zr_of rfl), (ua_of rfl), (ag_of rfl), (el_of rfl), ?_⟩) | ((with_reducible refine gL_buildBytes hM ?_); refine ⟨_, _, (us_of rfl), (el_of rfl), (by decide), (by decide), rfl, (by (repeat (first | exact EvB.nil | apply EvB.cons rfl (by first | exact (rfl : B8 _ = B8 _) | exact lit8 _ (by decide)))); done), ?_⟩; intro _ _ hM2; clear hM; have hM := hM2; clear hM2) | ((with_reducible refine gL_append_B hM ?_); refine ⟨_, _, _, _, _, _, _, _, _, _, rfl, rfl, (by first | exact (rfl : Value.slice (some ⟨_, 0, none⟩) _ _ = sl (some _) _ _) | exact (rfl : Value.slice none _ _ = sl none _ _) | rfl), (us_of rfl), (el_of rfl), (by first | exact hM.src (by (repeat (first | exact .head _ | apply List.Mem.tail)); done) | exact (hM.bytes0 (by assumption)).src), (fun _ _ => by (repeat (first | exact .here _ _ _ | apply Swap.there)); done), (by first | assumption | exact Len.map (by assumption) _ | rfl | exact Len.map (by rfl) _ | exact Len.of (by simp; done)), (by first | assumption | exact Len.map (by assumption) _ | rfl | exact Len.map (by rfl) _ | exact Len.of (by simp; done)), (by first | assumption | (simp [maxLen]; done) | omega | (simp [maxLen]; omega)), (by first | omega | (simp only [Len] at *; omega) | (simp; omega)), ?_⟩; intro _ _ _ hM2 _ _; clear hM; have hM := hM2; clear hM2) | ((first | (with_reducible refine gL_field ?_) | ((with_reducible refine gG_field ?_ ?_); (exact wanted_of rfl rfl rfl rfl rfl))); refine ⟨_, _, rfl, (by (first | (exact field_one (fb_of rfl) rfl) | (exact field_agg (fa_of rfl) rfl))), ?_⟩))
          have hM3 : Mem [] w0 _ (⟨some ge, 53, wrongC 5 12, 2⟩ :: ⟨some gr, 27, imC Img.im0 (.slice none 0 0), 36⟩ :: []) := hM
          exact hM3.ret_cell_tmp rfl rfl rfl rfl (.tail _ (.head _)) (ag_of rfl) hzC (.inr ⟨5, 12, ge, hP, by decide, rfl, hM3.drop2⟩)
        · have hli : ¬ (524288 : Int) < (E : Int) := by have := mt hlo.2 hlong; omega
          clear hlo
          by_cases hshort : nb < E
          · have hP := hresp.trans (rest_short hbl2 hlong (by rw [hNE]; exact hshort))
            have hsi : (nb : Int) < (E : Int) := by omega
            clear hlong hshort hresp hcell hNE
            go_wp2_with (first
              | ((with_reducible refine gL_box (dst := some 65) hM ?_); refine ⟨_, [.int .i64 6, .int .i64 (nb : Int)], 2, rfl, rfl, rfl, ?_⟩; intro ge _ hM2; clear hM; have hM := hM2; clear hM2)
              | go_skip | ((first | (with_reducible refine gL_load ?_) | ((with_reducible refine gG_load ?_ ?_); (exact wanted_of rfl rfl rfl rfl rfl))); refine ⟨_, _, rfl, (by (first | (assumption) | (exact hM.loads_B8 (by (repeat (first | exact .head _ | apply List.Mem.tail)); done) (on_of rfl) (by first | omega | (simp only [Len] at *; omega) | (simp; omega))) | (exact hM.loads_all (by (repeat (first | exact .head _ | apply List.Mem.tail)); done) (ag_of rfl) (by first | assumption | exact Len.map (by assumption) _ | rfl | exact Len.map (by rfl) _ | exact Len.of (by simp; done))) | (exact hM.loads_one (by (repeat (first | exact .head _ | apply List.Mem.tail)); done) (on_of rfl) rfl) | (exact hM.loads_W32 (by (repeat (first | exact .head _ | apply List.Mem.tail)); done) (on_of rfl) (by first | omega | (simp only [Len] at *; omega) | (simp; omega))) | (exact loads_cell (by assumption) (on_of rfl)))), ?_⟩) | ((with_reducible refine gL_store hM ?_); refine ⟨_, _, _, rfl, rfl, (by (first | (exact hM.stores_B8 (by first | exact (rfl : B8 _ = B8 _) | exact lit8 _ (by decide)) (by (repeat (first | exact .here _ _ _ | apply Has.there)); done) (on_of rfl) (by first | omega | (simp only [Len] at *; omega) | (simp; omega))) | (exact hM.stores_all (by (repeat (first | exact .here _ _ _ | apply Has.there)); done) (ag_of rfl) (by first | assumption | exact Len.map (by assumption) _ | rfl | exact Len.map (by rfl) _ | exact Len.of (by simp; done)) (by first | assumption | exact Len.map (by assumption) _ | rfl | exact Len.map (by rfl) _ | exact Len.of (by simp; done)) (by first | exact B8_one | exact W32_one | exact one_of_all rfl)) | (exact hM.stores_W32 rfl (by (repeat (first | exact .here _ _ _ | apply Has.there)); done) (on_of rfl) (by first | omega | (simp only [Len] at *; omega) | (simp; omega))) | (exact hM.stores_one (by (repeat (first | exact .here _ _ _ | apply Has.there)); done) (on_of rfl) (by first | omega | (simp only [Len] at *; omega) | (simp; omega)) rfl rfl))), ?_⟩; intro _ hM2; clear hM; have hM := hM2; clear hM2) | ((with_reducible refine gL_alloc hM ?_); refine ⟨_, _, (zr_of rfl), ?_⟩; intro _ _ hM2; clear hM; have hM := hM2; clear hM2) | ((with_reducible refine gL_box hM ?_); refine ⟨_, _, _, rfl, rfl, (by first | assumption | exact Len.map (by assumption) _ | rfl | exact Len.map (by rfl) _ | exact Len.of (by simp; done)), ?_⟩; intro _ _ hM2; clear hM; have hM := hM2; clear hM2) | ((with_reducible refine gL_build0 ?_); refine ⟨_, _, _, _, _, _, (zr_of rfl), (ua_of rfl), (ag_of rfl), (el_of rfl), ?_⟩) | ((with_reducible refine gL_buildBytes hM ?_); refine ⟨_, _, (us_of rfl), (el_of rfl), (by decide), (by decide), rfl, (by (repeat (first | exact EvB.nil | apply EvB.cons rfl (by first | exact (rfl : B8 _ = B8 _) | exact lit8 _ (by decide)))); done), ?_⟩; intro _ _ hM2; clear hM; have hM := hM2; clear hM2) | ((with_reducible refine gL_append_B hM ?_); refine ⟨_, _, _, _, _, _, _, _, _, _, rfl, rfl, (by first | exact (rfl : Value.slice (some ⟨_, 0, none⟩) _ _ = sl (some _) _ _) | exact (rfl : Value.slice none _ _ = sl none _ _) | rfl), (us_of rfl), (el_of rfl), (by first | exact hM.src (by (repeat (first | exact .head _ | apply List.Mem.tail)); done) | exact (hM.bytes0 (by assumption)).src), (fun _ _ => by (repeat (first | exact .here _ _ _ | apply Swap.there)); done), (by first | assumption | exact Len.map (by assumption) _ | rfl | exact Len.map (by rfl) _ | exact Len.of (by simp; done)), (by first | assumption | exact Len.map (by assumption) _ | rfl | exact Len.map (by rfl) _ | exact Len.of (by simp; done)), (by first | assumption | (simp [maxLen]; done) | omega | (simp [maxLen]; omega)), (by first | omega | (simp only [Len] at *; omega) | (simp; omega)), ?_⟩; intro _ _ _ hM2 _ _; clear hM; have hM := hM2; clear hM2) | ((first | (with_reducible refine gL_field ?_) | ((with_reducible refine gG_field ?_ ?_); (exact wanted_of rfl rfl rfl rfl rfl))); refine ⟨_, _, rfl, (by (first | (exact field_one (fb_of rfl) rfl) | (exact field_agg (fa_of rfl) rfl))), ?_⟩))
            have hM3 : Mem [] w0 _ (⟨some ge, 53, wrongC 6 nb, 2⟩ :: ⟨some gr, 27, imC Img.im0 (.slice none 0 0), 36⟩ :: []) := hM
            exact hM3.ret_cell_tmp rfl rfl rfl rfl (.tail _ (.head _)) (ag_of rfl) hzC (.inr ⟨6, nb, ge, hP, by decide, rfl, hM3.drop2⟩)
          · have hsi : ¬ (nb : Int) < (E : Int) := by omega
            by_cases hmore : E < nb
            · have hP := hresp.trans (rest_more hbl2 hlong (by rw [hNE]; exact hshort) (by rw [hNE]; exact hmore))
              rw [hNE] at hP
              have hmi : (E : Int) < (nb : Int) := by omega
              clear hlong hshort hmore hresp hcell hNE
              go_wp2_with (first
                | ((with_reducible refine gL_box (dst := some 75) hM ?_); refine ⟨_, [.int .i64 7, .int .i64 (E : Int)], 2, rfl, rfl, rfl, ?_⟩; intro ge _ hM2; clear hM; have hM := hM2; clear hM2)
                | go_skip | ((first | (with_reducible refine gL_load ?_) | ((with_reducible refine gG_load ?_ ?_); (exact wanted_of rfl rfl rfl rfl rfl))); refine ⟨_, _, rfl, (by (first | (assumption) | (exact hM.loads_B8 (by (repeat (first | exact .head _ | apply List.Mem.tail)); done) (on_of rfl) (by first | omega | (simp only [Len] at *; omega) | (simp; omega))) | (exact hM.loads_all (by (repeat (first | exact .head _ | apply List.Mem.tail)); done) (ag_of rfl) (by first | assumption | exact Len.map (by assumption) _ | rfl | exact Len.map (by rfl) _ | exact Len.of (by simp; done))) | (exact hM.loads_one (by (repeat (first | exact .head _ | apply List.Mem.tail)); done) (on_of rfl) rfl) | (exact hM.loads_W32 (by (repeat (first | exact .head _ | apply List.Mem.tail)); done) (on_of rfl) (by first | omega | (simp only [Len] at *; omega) | (simp; omega))) | (exact loads_cell (by assumption) (on_of rfl)))), ?_⟩) | ((with_reducible refine gL_store hM ?_); refine ⟨_, _, _, rfl, rfl, (by (first | (exact hM.stores_B8 (by first | exact (rfl : B8 _ = B8 _) | exact lit8 _ (by decide)) (by (repeat (first | exact .here _ _ _ | apply Has.there)); done) (on_of rfl) (by first | omega | (simp only [Len] at *; omega) | (simp; omega))) | (exact hM.stores_all (by (repeat (first | exact .here _ _ _ | apply Has.there)); done) (ag_of rfl) (by first | assumption | exact Len.map (by assumption) _ | rfl | exact Len.map (by rfl) _ | exact Len.of (by simp; done)) (by first | assumption | exact Len.map (by assumption) _ | rfl | exact Len.map (by rfl) _ | exact Len.of (by simp; done)) (by first | exact B8_one | exact W32_one | exact one_of_all rfl)) | (exact hM.stores_W32 rfl (by (repeat (first | exact .here _ _ _ | apply Has.there)); done) (on_of rfl) (by first | omega | (simp only [Len] at *; omega) | (simp; omega))) | (exact hM.stores_one (by (repeat (first | exact .here _ _ _ | apply Has.there)); done) (on_of rfl) (by first | omega | (simp only [Len] at *; omega) | (simp; omega)) rfl rfl))), ?_⟩; intro _ hM2; clear hM; have hM := hM2; clear hM2) | ((with_reducible refine gL_alloc hM ?_); refine ⟨_, _, (zr_of rfl), ?_⟩; intro _ _ hM2; clear hM; have hM := hM2; clear hM2) | ((with_reducible refine gL_box hM ?_); refine ⟨_, _, _, rfl, rfl, (by first | assumption | exact Len.map (by assumption) _ | rfl | exact Len.map (by rfl) _ | exact Len.of (by simp; done)), ?_⟩; intro _ _ hM2; clear hM; have hM := hM2; clear hM2) | ((with_reducible refine gL_build0 ?_); refine ⟨_, _, _, _, _, _, (zr_of rfl), (ua_of rfl), (ag_of rfl), (el_of rfl), ?_⟩) | ((with_reducible refine gL_buildBytes hM ?_); refine ⟨_, _, (us_of rfl), (el_of rfl), (by decide), (by decide), rfl, (by (repeat (first | exact EvB.nil | apply EvB.cons rfl (by first | exact (rfl : B8 _ = B8 _) | exact lit8 _ (by decide)))); done), ?_⟩; intro _ _ hM2; clear hM; have hM := hM2; clear hM2) | ((with_reducible refine gL_append_B hM ?_); refine ⟨_, _, _, _, _, _, _, _, _, _, rfl, rfl, (by first | exact (rfl : Value.slice (some ⟨_, 0, none⟩) _ _ = sl (some _) _ _) | exact (rfl : Value.slice none _ _ = sl none _ _) | rfl), (us_of rfl), (el_of rfl), (by first | exact hM.src (by (repeat (first | exact .head _ | apply List.Mem.tail)); done) | exact (hM.bytes0 (by assumption)).src), (fun _ _ => by (repeat (first | exact .here _ _ _ | apply Swap.there)); done), (by first | assumption | exact Len.map (by assumption) _ | rfl | exact Len.map (by rfl) _ | exact Len.of (by simp; done)), (by first | assumption | exact Len.map (by assumption) _ | rfl | exact Len.map (by rfl) _ | exact Len.of (by simp; done)), (by first | assumption | (simp [maxLen]; done) | omega | (simp [maxLen]; omega)), (by first | omega | (simp only [Len] at *; omega) | (simp; omega)), ?_⟩; intro _ _ _ hM2 _ _; clear hM; have hM := hM2; clear hM2) | ((first | (with_reducible refine gL_field ?_) | ((with_reducible refine gG_field ?_ ?_); (exact wanted_of rfl rfl rfl rfl rfl))); refine ⟨_, _, rfl, (by (first | (exact field_one (fb_of rfl) rfl) | (exact field_agg (fa_of rfl) rfl))), ?_⟩))
              have hM3 : Mem [] w0 _ (⟨some ge, 53, wrongC 7 E, 2⟩ :: ⟨some gr, 27, imC Img.im0 (.slice none 0 0), 36⟩ :: []) := hM
              exact hM3.ret_cell_tmp rfl rfl rfl rfl (.tail _ (.head _)) (ag_of rfl) hzC (.inr ⟨7, E, ge, hP, by decide, rfl, hM3.drop2⟩)
            · have hP := hresp.trans (rest_just hbl2 hlong (by rw [hNE]; exact hshort) (by rw [hNE]; exact hmore))
              have hmi : ¬ (E : Int) < (nb : Int) := by omega
              have hnbE : nb = E := by omega
              subst hnbE
              obtain ⟨p5, p6, p8, hpv⟩ : ∃ p5 p6 p8, Img.parse b = (⟨((p5 : UInt8).toNat : Int), ((p6 : UInt8).toNat : Int), ((p8 : Nat) : Int), (b.drop 16).take N, b.drop M⟩, (0, 0)) ∧ p5 = gb b 5 ∧ p6 = gb b 6 ∧ p8 = Img.number (b.drop 8) := ⟨_, _, _, by rw [HMd ()]; exact hP, rfl, rfl, rfl⟩
              obtain ⟨hP2, hp5, hp6, hp8⟩ := hpv
              have hB := hM.bytes0 hv
              obtain ⟨bb, off, rfl, hc5⟩ := hcell _ hB 5 (by omega)
              obtain ⟨bb', off', e1, hc6⟩ := hcell _ hB 6 (by omega)
              cases e1
              rw [← hp5] at hc5
              rw [← hp6] at hc6
              have hs0 := hB.src
              rw [hbl2.eq] at hs0
              have hcd : ∀ w', Bytes w' (.slice (some ⟨bb, off, none⟩) nb cap0) b → w'.cell? ⟨bb, off + 5 * 1, none⟩ = some (B8 p5) ∧ w'.cell? ⟨bb, off + 6 * 1, none⟩ = some (B8 p6) := fun w' hb => by
                obtain ⟨b2, o2, e2, h5⟩ := hcell _ hb 5 (by omega)
                cases e2
                obtain ⟨b2, o2, e2, h6⟩ := hcell _ hb 6 (by omega)
                cases e2
                rw [hp5, hp6]
                exact ⟨h5, h6⟩
              clear hP hcell hp5 hp6 hresp hB hc5 hc6
              replace hM : Mem [] w0 w1 (⟨none, 5, ([] : List UInt8).map B8, 0⟩ :: ⟨some gr, 27, imC Img.im0 (.slice none 0 0), 36⟩ :: []) := hM.addNil 5
              go_wp2_with (first
                | ((with_reducible refine gL_append_B (dst := some 78) hM ?_); refine ⟨_, _, none, 0, 0, 5, [], b, nb, _, rfl, rfl, rfl, (us_of rfl), (el_of rfl), hs0, (fun _ _ => .here _ _ _), rfl, hbl2, (by decide), (by omega), ?_⟩; intro ob1 cap1 wA hM2 h11 h12; rw [Nat.zero_add] at h11 ⊢; rw [List.nil_append] at hM2; obtain ⟨og, rfl⟩ := hM2.some_of (.head _) (n := nb) (Len.of (by rw [List.length_map]; exact hbl2.eq)) (by omega); clear hM hs0; have hM := hM2; clear hM2)
                | go_skip | ((first | (with_reducible refine gL_load ?_) | ((with_reducible refine gG_load ?_ ?_); (exact wanted_of rfl rfl rfl rfl rfl))); refine ⟨_, _, rfl, (by (first | (assumption) | (exact hM.loads_B8 (by (repeat (first | exact .head _ | apply List.Mem.tail)); done) (on_of rfl) (by first | omega | (simp only [Len] at *; omega) | (simp; omega))) | (exact hM.loads_all (by (repeat (first | exact .head _ | apply List.Mem.tail)); done) (ag_of rfl) (by first | assumption | exact Len.map (by assumption) _ | rfl | exact Len.map (by rfl) _ | exact Len.of (by simp; done))) | (exact hM.loads_one (by (repeat (first | exact .head _ | apply List.Mem.tail)); done) (on_of rfl) rfl) | (exact hM.loads_W32 (by (repeat (first | exact .head _ | apply List.Mem.tail)); done) (on_of rfl) (by first | omega | (simp only [Len] at *; omega) | (simp; omega))) | (exact loads_cell (by assumption) (on_of rfl)))), ?_⟩) | ((with_reducible refine gL_store hM ?_); refine ⟨_, _, _, rfl, rfl, (by (first | (exact hM.stores_B8 (by first | exact (rfl : B8 _ = B8 _) | exact lit8 _ (by decide)) (by (repeat (first | exact .here _ _ _ | apply Has.there)); done) (on_of rfl) (by first | omega | (simp only [Len] at *; omega) | (simp; omega))) | (exact hM.stores_all (by (repeat (first | exact .here _ _ _ | apply Has.there)); done) (ag_of rfl) (by first | assumption | exact Len.map (by assumption) _ | rfl | exact Len.map (by rfl) _ | exact Len.of (by simp; done)) (by first | assumption | exact Len.map (by assumption) _ | rfl | exact Len.map (by rfl) _ | exact Len.of (by simp; done)) (by first | exact B8_one | exact W32_one | exact one_of_all rfl)) | (exact hM.stores_W32 rfl (by (repeat (first | exact .here _ _ _ | apply Has.there)); done) (on_of rfl) (by first | omega | (simp only [Len] at *; omega) | (simp; omega))) | (exact hM.stores_one (by (repeat (first | exact .here _ _ _ | apply Has.there)); done) (on_of rfl) (by first | omega | (simp only [Len] at *; omega) | (simp; omega)) rfl rfl))), ?_⟩; intro _ hM2; clear hM; have hM := hM2; clear hM2) | ((with_reducible refine gL_alloc hM ?_); refine ⟨_, _, (zr_of rfl), ?_⟩; intro _ _ hM2; clear hM; have hM := hM2; clear hM2) | ((with_reducible refine gL_box hM ?_); refine ⟨_, _, _, rfl, rfl, (by first | assumption | exact Len.map (by assumption) _ | rfl | exact Len.map (by rfl) _ | exact Len.of (by simp; done)), ?_⟩; intro _ _ hM2; clear hM; have hM := hM2; clear hM2) | ((with_reducible refine gL_build0 ?_); refine ⟨_, _, _, _, _, _, (zr_of rfl), (ua_of rfl), (ag_of rfl), (el_of rfl), ?_⟩) | ((with_reducible refine gL_buildBytes hM ?_); refine ⟨_, _, (us_of rfl), (el_of rfl), (by decide), (by decide), rfl, (by (repeat (first | exact EvB.nil | apply EvB.cons rfl (by first | exact (rfl : B8 _ = B8 _) | exact lit8 _ (by decide)))); done), ?_⟩; intro _ _ hM2; clear hM; have hM := hM2; clear hM2) | ((with_reducible refine gL_append_B hM ?_); refine ⟨_, _, _, _, _, _, _, _, _, _, rfl, rfl, (by first | exact (rfl : Value.slice (some ⟨_, 0, none⟩) _ _ = sl (some _) _ _) | exact (rfl : Value.slice none _ _ = sl none _ _) | rfl), (us_of rfl), (el_of rfl), (by first | exact hM.src (by (repeat (first | exact .head _ | apply List.Mem.tail)); done) | exact (hM.bytes0 (by assumption)).src), (fun _ _ => by (repeat (first | exact .here _ _ _ | apply Swap.there)); done), (by first | assumption | exact Len.map (by assumption) _ | rfl | exact Len.map (by rfl) _ | exact Len.of (by simp; done)), (by first | assumption | exact Len.map (by assumption) _ | rfl | exact Len.map (by rfl) _ | exact Len.of (by simp; done)), (by first | assumption | (simp [maxLen]; done) | omega | (simp [maxLen]; omega)), (by first | omega | (simp only [Len] at *; omega) | (simp; omega)), ?_⟩; intro _ _ _ hM2 _ _; clear hM; have hM := hM2; clear hM2) | ((first | (with_reducible refine gL_field ?_) | ((with_reducible refine gG_field ?_ ?_); (exact wanted_of rfl rfl rfl rfl rfl))); refine ⟨_, _, rfl, (by (first | (exact field_one (fb_of rfl) rfl) | (exact field_agg (fa_of rfl) rfl))), ?_⟩))
              have hB := hM.bytes0 hv
              obtain ⟨ao8, hS8, hB8, -⟩ := bytes_from (P := Tryd.prog) hB (t := 23) (us_of rfl) (by exact elOne rfl) (k := 8) (by omega)
              have hnum8 : ∀ w', Adds wA w' → Calls Tryd.prog 29 #[.slice ao8 (nb - 8) (cap0 - 8)] w' fun e w'' => e = .returned (.int .i64 (p8 : Int)) ∧ Below w'.heap.size w' w'' := fun w' hb => by rw [hp8]; exact image_number w' _ _ _ _ (hB8.adds hb) (by omega)
              have hS16 := slice_three (P := Tryd.prog) (t := 23) (us_of rfl) (by exact elOne rfl) (n := nb) (cap := cap1) (lo := 16) (hi := M) (g := og) (off := 0) (by rw [HMd ()]; omega) (by rw [HMd ()]; omega)
              obtain ⟨o16, ho16⟩ : ∃ o, (if M = 16 then 0 else 0 + 16) = o := ⟨_, rfl⟩
              rw [ho16, show M - 16 = N from by rw [HMd ()]; omega] at hS16
              have ho2 : 0 < N → o16 = 16 := fun h => by rw [← ho16, if_neg (by rw [HMd ()]; omega)]
              have hcc : ∀ w', Adds wA w' → w'.cell? ⟨bb, off + 5 * 1, none⟩ = some (B8 p5) ∧ w'.cell? ⟨bb, off + 6 * 1, none⟩ = some (B8 p6) := fun w' hb => hcd _ ((hM.adds hb).bytes0 hv)
              clear hp8 hB8 ho16
              try simp only [Act.put, List.setIfInBounds_toArray, List.set_cons_succ, List.set_cons_zero]
              refine wp_region_tail 19 (by decide) (fun c vals => ⟨#[(Value.slice (some ⟨bb, off, none⟩) nb cap0 : Value), c 1, c 2, c 3, c 4, (Value.int .i64 (N : Int) : Value), c 6, (Value.slice (some ⟨og, 0, none⟩) nb cap1 : Value), vals 18, c 9, c 10, c 11, c 12, c 13, c 14, c 15, c 16, c 17, c 18, c 19, c 20, c 21, c 22, c 23, c 24, c 25, c 26, c 27, c 28, c 29, c 30, c 31, c 32, c 33, c 34, c 35, c 36, c 37, c 38, c 39, c 40, c 41, c 42, c 43, c 44, c 45, c 46, c 47, c 48, c 49, c 50, c 51, c 52, c 53, c 54, c 55, c 56, c 57, c 58, c 59, c 60, c 61, c 62, c 63, c 64, c 65, c 66, c 67, c 68, c 69, c 70, c 71, c 72, c 73, c 74, c 75, c 76, c 77, c 78, vals 0, vals 1, vals 2, vals 3, vals 4, vals 5, vals 6, vals 7, vals 8, vals 9, vals 10, vals 11, vals 12, vals 13, vals 14, vals 15, vals 16, vals 17, c 97, c 98, c 99, c 100, c 101, c 102, c 103, c 104], []⟩) (fun t => [undef, _, _, _, _, undef, _, undef, undef, _, _, _, _, _, _, _, _, _, _, _, _, _, _, _, _, _, _, _, _, _, _, _, _, _, _, _, _, _, _, _, _, _, _, _, _, _, _, _, _, _, _, _, _, _, _, _, _, _, _, _, _, _, _, _, _, _, _, _, _, _, _, _, _, _, _, _, _, _, _, undef, undef, undef, undef, undef, undef, undef, undef, undef, undef, undef, undef, undef, undef, undef, undef, undef, undef, _, _, _, _, _, _, _, _].getD t undef) (fun i => [_, _, _, _, _, _, _, _, _, _, _, _, _, _, _, _, _, _, _].getD i undef) (by kernel_rfl)
                [[], [0], [0, 1], [0, 1, 2], [], [4], [4, 5], [4, 5, 6], [], [8], [8, 9], [], [], [12], [], [14], [11, 12, 13, 14, 15], [0, 1, 2, 3, 4, 5, 6, 7, 8, 9, 10, 11, 12, 13, 14, 15, 16], [], [0, 1, 2, 3, 4, 5, 6, 7, 8, 9, 10, 11, 12, 13, 14, 15, 16, 17, 18]] (by kernel_rfl) (by kernel_rfl) (fun _ => True) trivial
                [fun x _ => x = (Value.slice (some ⟨bb, off, none⟩) nb cap0 : Value),
                 fun x _ => x = (Value.pointer (some ⟨bb, off + 5 * 1, none⟩) : Value),
                 fun x _ => x = (B8 p5 : Value),
                 fun x _ => x = (Value.int .i64 (p5.toNat : Int) : Value),
                 fun x _ => x = (Value.slice (some ⟨bb, off, none⟩) nb cap0 : Value),
                 fun x _ => x = (Value.pointer (some ⟨bb, off + 6 * 1, none⟩) : Value),
                 fun x _ => x = (B8 p6 : Value),
                 fun x _ => x = (Value.int .i64 (p6.toNat : Int) : Value),
                 fun x _ => x = (Value.slice (some ⟨bb, off, none⟩) nb cap0 : Value),
                 fun x _ => x = (Value.slice ao8 (nb - 8) (cap0 - 8) : Value),
                 fun x _ => x = (Value.int .i64 (p8 : Int) : Value),
                 fun x _ => x = (Value.slice (some ⟨og, 0, none⟩) nb cap1 : Value),
                 fun x _ => x = (Value.int .i64 (N : Int) : Value),
                 fun x _ => x = (Value.int .i64 (M : Int) : Value),
                 fun x _ => x = (Value.int .i64 (N : Int) : Value),
                 fun x _ => x = (Value.int .i64 (M : Int) : Value),
                 fun x _ => x = (Value.slice (some ⟨og, o16, none⟩) N N : Value),
                 fun x _ => x = (Value.agg (imC ⟨(p5.toNat : Int), (p6.toNat : Int), (p8 : Int), [], List.replicate 32 0⟩ (Value.slice (some ⟨og, o16, none⟩) N N)).toArray : Value),
                 fun (xx : Value) (ww : World) => ∃ g8, xx = .pointer (some ⟨g8, 0, none⟩) ∧ Mem [] wA ww [⟨some g8, 27, imC Img.im0 (.slice none 0 0), 36⟩]]
                ⟨fun _ _ _ h _ => h, fun _ _ _ h _ => h, fun _ _ _ h _ => h, fun _ _ _ h _ => h, fun _ _ _ h _ => h, fun _ _ _ h _ => h, fun _ _ _ h _ => h, fun _ _ _ h _ => h, fun _ _ _ h _ => h, fun _ _ _ h _ => h, fun _ _ _ h _ => h, fun _ _ _ h _ => h, fun _ _ _ h _ => h, fun _ _ _ h _ => h, fun _ _ _ h _ => h, fun _ _ _ h _ => h, fun _ _ _ h _ => h, fun _ _ _ h _ => h, fun _ _ _ h hb => (let ⟨g8, h1, h2⟩ := h; ⟨g8, h1, h2.adds hb⟩), trivial⟩ []
                ⟨?_, ?_, ?_, ?_, ?_, ?_, ?_, ?_, ?_, ?_, ?_, ?_, ?_, ?_, ?_, ?_, ?_, ?_, ?_, trivial⟩ ?_
              · refine showA_op 0 (by intro _ _ _; kernel_rfl) rfl rfl (fun c vals w hC hD => ?_)
                clear hD
                refine makes1 (x := .tmp 0) (X := Value.slice (some ⟨bb, off, none⟩) nb cap0) (by kernel_rfl : _ = (Value.slice (some ⟨bb, off, none⟩) nb cap0 : Value)) (fun ρ rc rf q0 => ?_)
                exact makes_move (.inl rfl) q0 ⟨Adds.refl _, rfl⟩
              · refine showA_op 1 (by intro _ _ _; kernel_rfl) rfl rfl (fun c vals w hC hD => ?_)
                have h0 : vals 0 = .slice (some ⟨bb, off, none⟩) nb cap0 := hD 0 rfl
                clear hD
                refine makes1 (x := .tmp 79) (X := Value.slice (some ⟨bb, off, none⟩) nb cap0) ((by kernel_rfl : _ = vals 0).trans h0) (fun ρ rc rf q79 => ?_)
                clear h0
                exact makes_index (us_of rfl) (el_of rfl) (j := 5) (by omega) rfl q79 (rc _) ⟨Adds.refl _, rfl⟩
              · refine showA_op 2 (by intro _ _ _; kernel_rfl) rfl rfl (fun c vals w hC hD => ?_)
                have h1 : vals 1 = .pointer (some ⟨bb, off + 5 * 1, none⟩) := hD 1 rfl
                clear hD
                refine makes1 (x := .tmp 80) (X := Value.pointer (some ⟨bb, off + 5 * 1, none⟩)) ((by kernel_rfl : _ = vals 1).trans h1) (fun ρ rc rf q80 => ?_)
                clear h1
                exact makes_load (loads_cell (hcc _ hC).1 (on_of rfl)) rfl q80 ⟨Adds.refl _, rfl⟩
              · refine showA_op 3 (by intro _ _ _; kernel_rfl) rfl rfl (fun c vals w hC hD => ?_)
                have h2 : vals 2 = B8 p5 := hD 2 rfl
                clear hD
                refine makes1 (x := .tmp 81) (X := B8 p5) ((by kernel_rfl : _ = vals 2).trans h2) (fun ρ rc rf q81 => ?_)
                clear h2
                (refine makes_value (v := .int .i64 (p5.toNat : Int)) ?_ ⟨Adds.refl _, rfl⟩; go_simp)
              · refine showA_op 4 (by intro _ _ _; kernel_rfl) rfl rfl (fun c vals w hC hD => ?_)
                clear hD
                refine makes1 (x := .tmp 0) (X := Value.slice (some ⟨bb, off, none⟩) nb cap0) (by kernel_rfl : _ = (Value.slice (some ⟨bb, off, none⟩) nb cap0 : Value)) (fun ρ rc rf q0 => ?_)
                exact makes_move (.inl rfl) q0 ⟨Adds.refl _, rfl⟩
              · refine showA_op 5 (by intro _ _ _; kernel_rfl) rfl rfl (fun c vals w hC hD => ?_)
                have h4 : vals 4 = .slice (some ⟨bb, off, none⟩) nb cap0 := hD 4 rfl
                clear hD
                refine makes1 (x := .tmp 83) (X := Value.slice (some ⟨bb, off, none⟩) nb cap0) ((by kernel_rfl : _ = vals 4).trans h4) (fun ρ rc rf q83 => ?_)
                clear h4
                exact makes_index (us_of rfl) (el_of rfl) (j := 6) (by omega) rfl q83 (rc _) ⟨Adds.refl _, rfl⟩
              · refine showA_op 6 (by intro _ _ _; kernel_rfl) rfl rfl (fun c vals w hC hD => ?_)
                have h5 : vals 5 = .pointer (some ⟨bb, off + 6 * 1, none⟩) := hD 5 rfl
                clear hD
                refine makes1 (x := .tmp 84) (X := Value.pointer (some ⟨bb, off + 6 * 1, none⟩)) ((by kernel_rfl : _ = vals 5).trans h5) (fun ρ rc rf q84 => ?_)
                clear h5
                exact makes_load (loads_cell (hcc _ hC).2 (on_of rfl)) rfl q84 ⟨Adds.refl _, rfl⟩
              · refine showA_op 7 (by intro _ _ _; kernel_rfl) rfl rfl (fun c vals w hC hD => ?_)
                have h6 : vals 6 = B8 p6 := hD 6 rfl
                clear hD
                refine makes1 (x := .tmp 85) (X := B8 p6) ((by kernel_rfl : _ = vals 6).trans h6) (fun ρ rc rf q85 => ?_)
                clear h6
                (refine makes_value (v := .int .i64 (p6.toNat : Int)) ?_ ⟨Adds.refl _, rfl⟩; go_simp)
              · refine showA_op 8 (by intro _ _ _; kernel_rfl) rfl rfl (fun c vals w hC hD => ?_)
                clear hD
                refine makes1 (x := .tmp 0) (X := Value.slice (some ⟨bb, off, none⟩) nb cap0) (by kernel_rfl : _ = (Value.slice (some ⟨bb, off, none⟩) nb cap0 : Value)) (fun ρ rc rf q0 => ?_)
                exact makes_move (.inl rfl) q0 ⟨Adds.refl _, rfl⟩
              · refine showA_op 9 (by intro _ _ _; kernel_rfl) rfl rfl (fun c vals w hC hD => ?_)
                have h8 : vals 8 = .slice (some ⟨bb, off, none⟩) nb cap0 := hD 8 rfl
                clear hD
                refine makes1 (x := .tmp 87) (X := Value.slice (some ⟨bb, off, none⟩) nb cap0) ((by kernel_rfl : _ = vals 8).trans h8) (fun ρ rc rf q87 => ?_)
                clear h8
                exact makes_slice hS8 rfl q87 (congrArg some (rc _)) rfl rfl ⟨Adds.refl _, rfl⟩
              · refine showA_op 10 (by intro _ _ _; kernel_rfl) rfl rfl (fun c vals w hC hD => ?_)
                have h9 : vals 9 = .slice ao8 (nb - 8) (cap0 - 8) := hD 9 rfl
                clear hD
                refine makes1 (x := .tmp 88) (X := Value.slice ao8 (nb - 8) (cap0 - 8)) ((by kernel_rfl : _ = vals 9).trans h9) (fun ρ rc rf q88 => ?_)
                clear h9
                refine makes_call (hnum8 _ hC) ?_ (by rintro e w' ⟨rfl, hb⟩; exact ⟨_, rfl, hb, rfl⟩)
                go_simp
              · refine showA_op 11 (by intro _ _ _; kernel_rfl) rfl rfl (fun c vals w hC hD => ?_)
                clear hD
                refine makes1 (x := .tmp 7) (X := Value.slice (some ⟨og, 0, none⟩) nb cap1) (by kernel_rfl : _ = (Value.slice (some ⟨og, 0, none⟩) nb cap1 : Value)) (fun ρ rc rf q7 => ?_)
                exact makes_move (.inl rfl) q7 ⟨Adds.refl _, rfl⟩
              · refine showA_op 12 (by intro _ _ _; kernel_rfl) rfl rfl (fun c vals w hC hD => ?_)
                clear hD
                refine makes1 (x := .tmp 5) (X := Value.int .i64 (N : Int)) (by kernel_rfl : _ = (Value.int .i64 (N : Int) : Value)) (fun ρ rc rf q5 => ?_)
                exact makes_move (.inl rfl) q5 ⟨Adds.refl _, rfl⟩
              · refine showA_op 13 (by intro _ _ _; kernel_rfl) rfl rfl (fun c vals w hC hD => ?_)
                have h12 : vals 12 = .int .i64 (N : Int) := hD 12 rfl
                clear hD
                refine makes1 (x := .tmp 91) (X := Value.int .i64 (N : Int)) ((by kernel_rfl : _ = vals 12).trans h12) (fun ρ rc rf q91 => ?_)
                clear h12
                (refine makes_value (v := .int .i64 (M : Int)) ?_ ⟨Adds.refl _, rfl⟩; go_simp; rw [wrapP_i64]; omega)
              · refine showA_op 14 (by intro _ _ _; kernel_rfl) rfl rfl (fun c vals w hC hD => ?_)
                clear hD
                refine makes1 (x := .tmp 5) (X := Value.int .i64 (N : Int)) (by kernel_rfl : _ = (Value.int .i64 (N : Int) : Value)) (fun ρ rc rf q5 => ?_)
                exact makes_move (.inl rfl) q5 ⟨Adds.refl _, rfl⟩
              · refine showA_op 15 (by intro _ _ _; kernel_rfl) rfl rfl (fun c vals w hC hD => ?_)
                have h14 : vals 14 = .int .i64 (N : Int) := hD 14 rfl
                clear hD
                refine makes1 (x := .tmp 93) (X := Value.int .i64 (N : Int)) ((by kernel_rfl : _ = vals 14).trans h14) (fun ρ rc rf q93 => ?_)
                clear h14
                (refine makes_value (v := .int .i64 (M : Int)) ?_ ⟨Adds.refl _, rfl⟩; go_simp; rw [wrapP_i64]; omega)
              · refine showA_op 16 (by intro _ _ _; kernel_rfl) rfl rfl (fun c vals w hC hD => ?_)
                have h11 : vals 11 = .slice (some ⟨og, 0, none⟩) nb cap1 := hD 11 rfl
                have h13 : vals 13 = .int .i64 (M : Int) := hD 13 rfl
                have h15 : vals 15 = .int .i64 (M : Int) := hD 15 rfl
                clear hD
                refine makes3 (x := .tmp 90) (X := Value.slice (some ⟨og, 0, none⟩) nb cap1) (y := .tmp 92) (Y := Value.int .i64 (M : Int)) (z := .tmp 94) (Z := Value.int .i64 (M : Int)) ((by kernel_rfl : _ = vals 11).trans h11) ((by kernel_rfl : _ = vals 13).trans h13) ((by kernel_rfl : _ = vals 15).trans h15) (fun ρ rc rf q90 q92 q94 => ?_)
                clear h11 h13 h15
                exact makes_slice hS16 rfl q90 (congrArg some (rc _)) (congrArg some q92) (congrArg some q94) ⟨Adds.refl _, rfl⟩
              · refine showA_op 17 (by intro _ _ _; kernel_rfl) rfl rfl (fun c vals w hC hD => ?_)
                have h3 : vals 3 = .int .i64 (p5.toNat : Int) := hD 3 rfl
                have h7 : vals 7 = .int .i64 (p6.toNat : Int) := hD 7 rfl
                have h10 : vals 10 = .int .i64 (p8 : Int) := hD 10 rfl
                have h16 : vals 16 = .slice (some ⟨og, o16, none⟩) N N := hD 16 rfl
                clear hD
                refine makes4 (x := .tmp 82) (X := Value.int .i64 (p5.toNat : Int)) (y := .tmp 86) (Y := Value.int .i64 (p6.toNat : Int)) (z := .tmp 89) (Z := Value.int .i64 (p8 : Int)) (t := .tmp 95) (T := Value.slice (some ⟨og, o16, none⟩) N N) ((by kernel_rfl : _ = vals 3).trans h3) ((by kernel_rfl : _ = vals 7).trans h7) ((by kernel_rfl : _ = vals 10).trans h10) ((by kernel_rfl : _ = vals 16).trans h16) (fun ρ rc rf q82 q86 q89 q95 => ?_)
                clear h3 h7 h10 h16
                exact makes_build1 (fun w => hbld w _ _ _ _ _ _) rfl (by simp only [List.map_cons, List.map_nil]; rw [q82, q86, q89, q95]) ⟨Adds.refl _, rfl⟩
              · refine showA_op 18 (by intro _ _ _; kernel_rfl) rfl rfl (fun c vals w hC hD => ?_)
                clear hD
                refine makes0 (fun ρ rc rf => ?_)
                exact makes_alloc hz rfl (fun g w' h1 => ⟨h1.done, g, rfl, ((Mem.start _).adds hC).join h1 (by simp)⟩)
              intro vals w' hC hΦ hne
              have h17 : vals 17 = .agg (imC ⟨(p5.toNat : Int), (p6.toNat : Int), (p8 : Int), [], List.replicate 32 0⟩ (.slice (some ⟨og, o16, none⟩) N N)).toArray := hΦ 17 (by decide)
              have h18 : (fun (xx : Value) (ww : World) => ∃ g8, xx = .pointer (some ⟨g8, 0, none⟩) ∧ Mem [] wA ww [⟨some g8, 27, imC Img.im0 (.slice none 0 0), 36⟩]) (vals 18) w' := hΦ 18 (by decide)
              clear hΦ hne
              simp only [List.getD_eq_getElem?_getD, List.getElem?_cons_zero, List.getElem?_cons_succ, Option.getD_some, List.drop_succ_cons, List.drop_zero]
              simp only [h17]
              clear h17
              try simp only [tuple_undef]
              obtain ⟨g8, e8, m8⟩ := h18
              replace hM := hM.addMem m8
              simp only [List.cons_append, List.nil_append] at hM
              simp only [e8]
              clear e8 m8 hC hcc hS8 hnum8 hB hcd hS16 hbld hb0
              have hC1l := imC_len (x := ⟨(p5.toNat : Int), (p6.toNat : Int), (p8 : Int), [], List.replicate 32 0⟩) (Len.rep 32 0) (.slice (some ⟨og, o16, none⟩) N N)
              have hC1o : ∀ v ∈ imC ⟨(p5.toNat : Int), (p6.toNat : Int), (p8 : Int), [], List.replicate 32 0⟩ (.slice (some ⟨og, o16, none⟩) N N), v.oneCell' = true := one_of_all rfl
              have hTl : Len (b.drop M) 32 := Len.of (by rw [List.length_drop, hbl2.eq]; omega)
              have hset := tag_set ⟨(p5.toNat : Int), (p6.toNat : Int), (p8 : Int), [], List.replicate 32 0⟩ (.slice (some ⟨og, o16, none⟩) N N) (b.drop M) (Len.rep 32 0) hTl
              have hC2l := imC_len (x := ⟨(p5.toNat : Int), (p6.toNat : Int), (p8 : Int), (b.drop 16).take N, b.drop M⟩) hTl (.slice (some ⟨og, o16, none⟩) N N)
              obtain ⟨C1, hC1⟩ : ∃ C1, C1 = imC ⟨(p5.toNat : Int), (p6.toNat : Int), (p8 : Int), [], List.replicate 32 0⟩ (.slice (some ⟨og, o16, none⟩) N N) := ⟨_, rfl⟩
              obtain ⟨C2, hC2⟩ : ∃ C2, C2 = imC ⟨(p5.toNat : Int), (p6.toNat : Int), (p8 : Int), (b.drop 16).take N, b.drop M⟩ (.slice (some ⟨og, o16, none⟩) N N) := ⟨_, rfl⟩
              rw [← hC1] at hC1l hC1o hset ⊢
              rw [← hC2] at hC2l
              replace hset : C1.take 4 ++ (b.drop M).map B8 ++ C1.drop (4 + 32) = C2 := hset.trans hC2.symm
              have HC2 : ∀ _ : Unit, C2 = imC ⟨(p5.toNat : Int), (p6.toNat : Int), (p8 : Int), (b.drop 16).take N, b.drop M⟩ (.slice (some ⟨og, o16, none⟩) N N) := fun _ => hC2
              have hC2o : ∀ v ∈ C2, v.oneCell' = true := by
                rw [hC2]
                intro v hv
                rcases List.mem_append.1 hv with h | h
                · exact one_of_all (C := ([.int .i64 _, .int .i64 _, .int .i64 _, .slice _ _ _] : List Value)) rfl v h
                · obtain ⟨c, _, rfl⟩ := List.mem_map.1 h
                  rfl
              clear hC1 hC2
              have HSET : ∀ _ : Unit, C1.take 4 ++ ((b.drop M).take 32).map B8 ++ C1.drop (4 + ((b.drop M).take 32).length) = C2 := fun _ => by
                have ht : (b.drop M).take 32 = b.drop M := List.take_of_length_le (by rw [hTl.eq]; exact Nat.le_refl _)
                rw [ht, hTl.eq]
                exact hset
              clear hset
              go_wp2_with (first
                | ((with_reducible refine gL_store hM ?_); refine ⟨_, _, _, rfl, rfl, hM.stores_all (.here _ _ _) (ag_of rfl) hC1l hzC hC1o, ?_⟩; intro wB hM2; clear hM; have hM := hM2; clear hM2)
                | go_skip)
              obtain ⟨aoT, hST, hBT, -⟩ := bytes_from (P := Tryd.prog) (hM.whole (.tail _ (.head _)) hbl2 (by simpa [maxLen] using h12)) (t := 23) (us_of rfl) (by exact elOne rfl) (k := M) (by omega)
              rw [show nb - M = 32 from by omega] at hST hBT
              try simp only [Act.put]
              refine wp_region_tail 6 (by decide) (fun c vals => ⟨#[c 0, c 1, c 2, c 3, c 4, (Value.int .i64 (N : Int) : Value), c 6, (Value.slice (some ⟨og, 0, none⟩) nb cap1 : Value), (Value.pointer (some ⟨g8, 0, none⟩) : Value), c 9, c 10, c 11, c 12, c 13, c 14, c 15, c 16, c 17, c 18, c 19, c 20, c 21, c 22, c 23, c 24, c 25, c 26, c 27, c 28, c 29, c 30, c 31, c 32, c 33, c 34, c 35, c 36, c 37, c 38, c 39, c 40, c 41, c 42, c 43, c 44, c 45, c 46, c 47, c 48, c 49, c 50, c 51, c 52, c 53, c 54, c 55, c 56, c 57, c 58, c 59, c 60, c 61, c 62, c 63, c 64, c 65, c 66, c 67, c 68, c 69, c 70, c 71, c 72, c 73, c 74, c 75, c 76, c 77, c 78, c 79, c 80, c 81, c 82, c 83, c 84, c 85, c 86, c 87, c 88, c 89, c 90, c 91, c 92, c 93, c 94, c 95, c 96, vals 0, vals 1, vals 2, vals 3, vals 4, vals 5, c 103, c 104], []⟩) (fun t => [_, _, _, _, _, undef, _, undef, undef, _, _, _, _, _, _, _, _, _, _, _, _, _, _, _, _, _, _, _, _, _, _, _, _, _, _, _, _, _, _, _, _, _, _, _, _, _, _, _, _, _, _, _, _, _, _, _, _, _, _, _, _, _, _, _, _, _, _, _, _, _, _, _, _, _, _, _, _, _, _, _, _, _, _, _, _, _, _, _, _, _, _, _, _, _, _, _, _, undef, undef, undef, undef, undef, undef, _, _].getD t undef) (fun i => [_, _, _, _, _, _].getD i undef) (by kernel_rfl)
                [[], [0], [], [], [3], [2, 3, 4], [0, 1, 2, 3, 4, 5]] (by kernel_rfl) (by kernel_rfl) (fun _ => True) trivial
                [fun x _ => x = (Value.pointer (some ⟨g8, 4, none⟩) : Value),
                 fun x _ => x = (Value.slice (some ⟨g8, 4, none⟩) 32 32 : Value),
                 fun x _ => x = (Value.slice (some ⟨og, 0, none⟩) nb cap1 : Value),
                 fun x _ => x = (Value.int .i64 (N : Int) : Value),
                 fun x _ => x = (Value.int .i64 (M : Int) : Value),
                 fun x _ => x = (Value.slice aoT 32 (cap1 - M) : Value)]
                ⟨fun _ _ _ h _ => h, fun _ _ _ h _ => h, fun _ _ _ h _ => h, fun _ _ _ h _ => h, fun _ _ _ h _ => h, fun _ _ _ h _ => h, trivial⟩ []
                ⟨?_, ?_, ?_, ?_, ?_, ?_, trivial⟩ ?_
              · refine showA_op 0 (by intro _ _ _; kernel_rfl) rfl rfl (fun c vals w hC hD => ?_)
                clear hD
                refine makes1 (x := .tmp 8) (X := Value.pointer (some ⟨g8, 0, none⟩)) (by kernel_rfl : _ = (Value.pointer (some ⟨g8, 0, none⟩) : Value)) (fun ρ rc rf q8 => ?_)
                (refine makes_value (v := .pointer (some ⟨g8, 4, none⟩)) ?_ ⟨Adds.refl _, rfl⟩; go_simp)
              · refine showA_op 1 (by intro _ _ _; kernel_rfl) rfl rfl (fun c vals w hC hD => ?_)
                have h0 : vals 0 = .pointer (some ⟨g8, 4, none⟩) := hD 0 rfl
                clear hD
                refine makes1 (x := .tmp 97) (X := Value.pointer (some ⟨g8, 4, none⟩)) ((by kernel_rfl : _ = vals 0).trans h0) (fun ρ rc rf q97 => ?_)
                clear h0
                exact makes_slice (slice_arr_all (t := 25) (ua_of rfl) (by exact elOne rfl)) rfl q97 rfl rfl rfl ⟨Adds.refl _, rfl⟩
              · refine showA_op 2 (by intro _ _ _; kernel_rfl) rfl rfl (fun c vals w hC hD => ?_)
                clear hD
                refine makes1 (x := .tmp 7) (X := Value.slice (some ⟨og, 0, none⟩) nb cap1) (by kernel_rfl : _ = (Value.slice (some ⟨og, 0, none⟩) nb cap1 : Value)) (fun ρ rc rf q7 => ?_)
                exact makes_move (.inl rfl) q7 ⟨Adds.refl _, rfl⟩
              · refine showA_op 3 (by intro _ _ _; kernel_rfl) rfl rfl (fun c vals w hC hD => ?_)
                clear hD
                refine makes1 (x := .tmp 5) (X := Value.int .i64 (N : Int)) (by kernel_rfl : _ = (Value.int .i64 (N : Int) : Value)) (fun ρ rc rf q5 => ?_)
                exact makes_move (.inl rfl) q5 ⟨Adds.refl _, rfl⟩
              · refine showA_op 4 (by intro _ _ _; kernel_rfl) rfl rfl (fun c vals w hC hD => ?_)
                have h3 : vals 3 = .int .i64 (N : Int) := hD 3 rfl
                clear hD
                refine makes1 (x := .tmp 100) (X := Value.int .i64 (N : Int)) ((by kernel_rfl : _ = vals 3).trans h3) (fun ρ rc rf q100 => ?_)
                clear h3
                (refine makes_value (v := .int .i64 (M : Int)) ?_ ⟨Adds.refl _, rfl⟩; go_simp; rw [wrapP_i64]; omega)
              · refine showA_op 5 (by intro _ _ _; kernel_rfl) rfl rfl (fun c vals w hC hD => ?_)
                have h2 : vals 2 = .slice (some ⟨og, 0, none⟩) nb cap1 := hD 2 rfl
                have h4 : vals 4 = .int .i64 (M : Int) := hD 4 rfl
                clear hD
                refine makes2 (x := .tmp 99) (X := Value.slice (some ⟨og, 0, none⟩) nb cap1) (y := .tmp 101) (Y := Value.int .i64 (M : Int)) ((by kernel_rfl : _ = vals 2).trans h2) ((by kernel_rfl : _ = vals 4).trans h4) (fun ρ rc rf q99 q101 => ?_)
                clear h2 h4
                exact makes_slice hST rfl q99 (congrArg some q101) rfl rfl ⟨Adds.refl _, rfl⟩
              intro vals w' hC hΦ hne
              have h1 : vals 1 = .slice (some ⟨g8, 4, none⟩) 32 32 := hΦ 1 (by decide)
              have h5 : vals 5 = .slice aoT 32 (cap1 - M) := hΦ 5 (by decide)
              clear hΦ hne
              simp only [List.getD_eq_getElem?_getD, List.getElem?_cons_zero, List.getElem?_cons_succ, Option.getD_some, List.drop_succ_cons, List.drop_zero]
              simp only [h1, h5]
              clear h1 h5
              try simp only [tuple_undef]
              replace hM := hM.adds hC
              replace hBT := hBT.adds hC
              clear hC hST
              go_wp2_with (first
                | ((with_reducible refine gL_copy_B hM ?_); refine ⟨_, _, _, _, _, _, C1, _, _, _, b.drop M, (us_of rfl), (by exact elOne rfl), rfl, rfl, hBT, (by rw [hC1l.eq]; exact Nat.le_refl _), .here _ _ _, ?_⟩; rw [HSET ()]; intro _ hM2; clear hM; have hM := hM2; clear hM2)
                | ((with_reducible refine gL_load (dst := some 104) ?_); refine ⟨_, _, rfl, hM.loads_all (.head _) (ag_of rfl) hC2l, ?_⟩)
                | ((with_reducible refine gL_store hM ?_); refine ⟨_, _, _, rfl, rfl, hM.stores_all (.there _ (.there _ (.here _ _ _))) (ag_of rfl) hC2l hzC hC2o, ?_⟩; intro _ hM2; clear hM; have hM := hM2; clear hM2))
              exact hM.ret_cell_tmp rfl rfl rfl rfl (.tail _ (.tail _ (.head _))) (ag_of rfl) hC2l (.inl ⟨_, og, o16, cap1, N, hP2, Len.of (by rw [List.length_take, List.length_drop, hbl2.eq]; omega), hTl, by rw [HC2 ()]; rfl, ho2, by omega, h12, by omega, rfl, hM.drop.drop2⟩)
end Go.Proofs.YtejmbkljnhnklaaDoor
